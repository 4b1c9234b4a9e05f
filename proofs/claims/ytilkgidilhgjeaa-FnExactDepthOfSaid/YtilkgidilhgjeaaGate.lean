/-
  Lists of the struct Gate in the laws: copies, comparisons, marks (printed by gen_struct.py).
-/
import Derived.Test.YtilkgidilhgjeaaFlat
namespace Go.Proofs.Ytilkgidilhgjeaa
open Go.RowKit

theorem Gate_info : (Try.prog.info? 87).map (fun i => (i.zero, i.size, i.bytes)) = some (some (.agg #[.int .i64 0, .int .i64 0, .int .i64 0]), 3, 24) := by kernel_rfl
theorem Gate_size_l : (Try.prog.info? 122).map (·.size) = some 3 := by kernel_rfl
theorem Gate_size_i : (Try.prog.info? 87).map (·.size) = some 3 := by kernel_rfl
theorem toGate_any (w : World) (x0 x1 x2 : Int) : Calls Try.prog 99 #[.agg #[.int .i64 x0, .int .i64 x1, .int .i64 x2]] w fun e w' => e = .returned (.agg #[.int .i64 x0, .int .i64 x1, .int .i64 x2]) ∧ Below w.heap.size w w' := by
  go_enter Try.func99, Try.ntmps99
  go_wp2_with fail
  exact bodyPost_ret (v := .agg #[.int .i64 x0, .int .i64 x1, .int .i64 x2]) (by simp [results, Try.results99, go_sem]) rfl ⟨rfl, (((Below.refl _ _).alloc (Nat.le_refl _) _).alloc (by simp) _).alloc (by simp; omega) _⟩
theorem szGateS_any (w : World) (ao : Option Addr) (n c : Nat) (left : Int) (h0 : 0 ≤ left) (h1 : left ≤ 1048576) (hn : n ≤ maxLen) : Calls Try.prog 55 #[.slice ao n c, .int .i64 left] w fun e w' => e = .returned (.int .i64 (szF left n)) ∧ w = w' := by
  unfold maxLen at hn
  by_cases hlt : left < n
  · go_enter Try.func55, Try.ntmps55
    go_wp2_with fail
    go_ret
    exact ⟨ret_int (by rw [szF, if_pos (by omega)]), rfl⟩
  · go_enter Try.func55, Try.ntmps55
    go_wp2_with fail
    go_ret
    exact ⟨ret_int (by rw [szF, if_neg (by omega)]), rfl⟩
theorem eqGate_any (w : World) (x0 x1 x2 y0 y1 y2 : Int) : Calls Try.prog 102 #[.agg #[.int .i64 x0, .int .i64 x1, .int .i64 x2], .agg #[.int .i64 y0, .int .i64 y1, .int .i64 y2]] w (RetB (decide (x0 = y0) && decide (x1 = y1) && decide (x2 = y2)) w) := by
  have hb0 : Below w.heap.size w ((w.alloc (.cells #[.int .i64 x0, .int .i64 x1, .int .i64 x2] 87)).alloc (.cells #[.int .i64 y0, .int .i64 y1, .int .i64 y2] 87)) := ((Below.refl _ _).alloc (Nat.le_refl _) _).alloc (by simp) _
  go_enter Try.func102, Try.ntmps102
  go_wp2_with fail
  all_goals
    go_ret
    exact ⟨ret_bool (by simp at *; simp [*]), hb0⟩
/-- The copy that the laws make. -/
theorem toGateS_any (w : World) (ao : Option Addr) (n c : Nat) (xs : List Int) (ha : Flat 3 w w.heap.size ao n xs) : Calls Try.prog 59 #[.slice ao n c] w (RetF 3 87 xs w) := by
  have hn := ha.le
  obtain ⟨i0, hi, hz0, hz1, hz2⟩ := info_parts Gate_info
  have hlen := Lib.hid ha.1
  go_enter Try.func59, Try.ntmps59
  go_wp2_with (at_make; refine wpList_make_full _ rfl _ _ 41 rfl w.heap.size 87 i0 (.agg #[.int .i64 0, .int .i64 0, .int .i64 0]) 3 Try.underlying41 hi hz0 hz1 _ _ _ _ n rfl rfl rfl rfl (by rw [hz2]; omega) (by unfold maxLen; omega) (Nat.le_refl _) ?_; intro w1 hown1 hg1)
  have hb1 : Below w.heap.size w w1 := (Below.refl _ _).grown hg1 (Nat.le_refl _) (by simp)
  obtain ⟨cs0, hown1⟩ : ∃ cs0, w1.ownsRow w.heap.size 87 3 (.slice (some ⟨w.heap.size, 0, none⟩) n n) n cs0 := ⟨_, hown1⟩
  have hl0 : cs0.length = n * 3 := hown1.1
  have HL := Lib.hid (show cs0.length = (xs.map (Value.int .i64)).length by rw [List.length_map, hlen.out, hl0])
  clear hl0
  go_loopw [4] (fun i wr => ∃ k : Nat, k ≤ n ∧ i = .int .i64 k ∧ wr.ownsRow w.heap.size 87 3 (.slice (some ⟨w.heap.size, 0, none⟩) n n) n ((xs.map (Value.int .i64)).take (k * 3) ++ cs0.drop (k * 3)) ∧ Below w.heap.size w wr) (fun i _ => n - (intOf i).toNat)
  case atStart => exact ⟨0, Nat.zero_le _, rfl, by simpa using hown1, hb1⟩
  case round =>
    obtain ⟨k, hk, rfl, hr, hbel⟩ := hrel
    by_cases hlt : k < n
    · obtain ⟨b1, o1, rfl, hbl, hat⟩ := ha.at (by decide) hlt
      obtain ⟨x0, hx0, hc0⟩ := hat 0 (by decide)
      have g0 : wr.cell? ⟨b1, o1 + k * 3, none⟩ = some (.int .i64 x0) := by exact (hbel.cell (by exact hbl)).trans hc0
      obtain ⟨x1, hx1, hc1⟩ := hat 1 (by decide)
      have g1 : wr.cell? ⟨b1, o1 + k * 3 + 1, none⟩ = some (.int .i64 x1) := by rw [Nat.add_assoc]; exact (hbel.cell (by exact hbl)).trans hc1
      obtain ⟨x2, hx2, hc2⟩ := hat 2 (by decide)
      have g2 : wr.cell? ⟨b1, o1 + k * 3 + 2, none⟩ = some (.int .i64 x2) := by rw [Nat.add_assoc]; exact (hbel.cell (by exact hbl)).trans hc2
      have HR := Lib.hid hr
      have HX0 := Lib.hid hx0
      have HX1 := Lib.hid hx1
      have HX2 := Lib.hid hx2
      clear hr hat hx0 hc0 hx1 hc1 hx2 hc2
      go_wp2_with fail
      refine (toGate_any _ _ _ _).mono ?_
      rintro e w2 ⟨rfl, hb2⟩
      have hr2 := ownsRow_below HR.out hb2 (Nat.le_refl _)
      have ht := there_of_row hr2 hlt
      obtain ⟨s0, f0⟩ := ht 0 (by decide)
      obtain ⟨v0, s0⟩ := Option.isSome_iff_exists.1 s0
      obtain ⟨s1, f1⟩ := ht 1 (by decide)
      obtain ⟨v1, s1⟩ := Option.isSome_iff_exists.1 s1
      obtain ⟨s2, f2⟩ := ht 2 (by decide)
      obtain ⟨v2, s2⟩ := Option.isSome_iff_exists.1 s2
      simp only [Nat.add_zero] at s0 f0
      have HR2 := Lib.hid hr2
      clear hr2 ht
      go_wp2_with fail
      go_roundw
      case rel =>
        have hB2 : Below w.heap.size w w2 := hbel.trans (hb2.mono hbel.size)
        obtain ⟨r0, q0⟩ := World.ownsRow.stored HR2.out (k * 3) (.int .i64 x0)
        rw [take_set HL.out (map_get (show xs[k * 3]? = some x0 from HX0.out))] at r0
        have p0 := hB2.grown q0 hB2.size (by simp)
        obtain ⟨r1, q1⟩ := World.ownsRow.stored r0 (k * 3 + 1) (.int .i64 x1)
        rw [take_set HL.out (map_get (show xs[k * 3 + 1]? = some x1 from HX1.out))] at r1
        have p1 := p0.grown q1 p0.size (by simp)
        obtain ⟨r2, q2⟩ := World.ownsRow.stored r1 (k * 3 + 2) (.int .i64 x2)
        rw [take_set HL.out (map_get (show xs[k * 3 + 2]? = some x2 from HX2.out))] at r2
        have p2 := p1.grown q2 p1.size (by simp)
        rw [show k * 3 + 2 + 1 = (k + 1) * 3 from by omega] at r2
        exact ⟨k + 1, by omega, by go_num, r2, p2⟩
      case measure => simp [intOf] <;> omega
    · obtain rfl : k = n := by omega
      go_wp2_with fail
      go_ret
      rw [List.take_of_length_le (by rw [List.length_map, hlen.out]; exact Nat.le_refl _), List.drop_of_length_le (by rw [HL.out, List.length_map, hlen.out]; exact Nat.le_refl _), List.append_nil] at hr
      exact ⟨_, _, _, rfl, ⟨hlen.out, hn, .inr ⟨_, rfl, hr⟩⟩, hbel⟩
set_option maxRecDepth 8000 in
theorem eqGateS_any (w : World) (B C : Nat) (ao bo : Option Addr) (n m c d : Nat) (xs ys : List Int) (ha : Flat 3 w B ao n xs) (hb : Flat 3 w C bo m ys) (hB : B ≤ w.heap.size) (hC : C ≤ w.heap.size) :
    Calls Try.prog 65 #[.slice ao n c, .slice bo m d] w (RetB (eqB xs ys) w) := by
  have hn := ha.le
  have hm := hb.le
  by_cases hnm : n = m
  · obtain rfl := hnm
    have HA := Lib.hid ha.1
    have HB := Lib.hid hb.1
    go_enter Try.func65, Try.ntmps65
    go_wp2
    go_loopw [5] (fun i wr => ∃ k : Nat, k ≤ n ∧ i = .int .i64 k ∧ Hid (xs.take (k * 3) = ys.take (k * 3)) ∧ Below w.heap.size w wr) (fun i _ => n - (intOf i).toNat)
    case atStart => exact ⟨0, Nat.zero_le _, rfl, by simp [Hid], Below.refl _ _⟩
    case round =>
      obtain ⟨k, hk, rfl, heq, hbel⟩ := hrel
      by_cases hlt : k < n
      · obtain ⟨b1, o1, rfl, hb1, hat⟩ := ha.at (by decide) hlt
        obtain ⟨b2, o2, rfl, hb2, hbt⟩ := hb.at (by decide) hlt
        obtain ⟨x0, hx0, cx0⟩ := hat 0 (by decide)
        have gx0 : wr.cell? ⟨b1, o1 + k * 3, none⟩ = some (.int .i64 x0) := by exact (hbel.cell (by exact Nat.lt_of_lt_of_le hb1 hB)).trans cx0
        have Hx0 := Lib.hid hx0
        obtain ⟨y0, hy0, cy0⟩ := hbt 0 (by decide)
        have gy0 : wr.cell? ⟨b2, o2 + k * 3, none⟩ = some (.int .i64 y0) := by exact (hbel.cell (by exact Nat.lt_of_lt_of_le hb2 hC)).trans cy0
        have Hy0 := Lib.hid hy0
        obtain ⟨x1, hx1, cx1⟩ := hat 1 (by decide)
        have gx1 : wr.cell? ⟨b1, o1 + k * 3 + 1, none⟩ = some (.int .i64 x1) := by rw [Nat.add_assoc]; exact (hbel.cell (by exact Nat.lt_of_lt_of_le hb1 hB)).trans cx1
        have Hx1 := Lib.hid hx1
        obtain ⟨y1, hy1, cy1⟩ := hbt 1 (by decide)
        have gy1 : wr.cell? ⟨b2, o2 + k * 3 + 1, none⟩ = some (.int .i64 y1) := by rw [Nat.add_assoc]; exact (hbel.cell (by exact Nat.lt_of_lt_of_le hb2 hC)).trans cy1
        have Hy1 := Lib.hid hy1
        obtain ⟨x2, hx2, cx2⟩ := hat 2 (by decide)
        have gx2 : wr.cell? ⟨b1, o1 + k * 3 + 2, none⟩ = some (.int .i64 x2) := by rw [Nat.add_assoc]; exact (hbel.cell (by exact Nat.lt_of_lt_of_le hb1 hB)).trans cx2
        have Hx2 := Lib.hid hx2
        obtain ⟨y2, hy2, cy2⟩ := hbt 2 (by decide)
        have gy2 : wr.cell? ⟨b2, o2 + k * 3 + 2, none⟩ = some (.int .i64 y2) := by rw [Nat.add_assoc]; exact (hbel.cell (by exact Nat.lt_of_lt_of_le hb2 hC)).trans cy2
        have Hy2 := Lib.hid hy2
        clear hat hbt hx0 cx0 hy0 cy0 hx1 cx1 hy1 cy1 hx2 cx2 hy2 cy2
        go_wp2
        go_still_tail 8, (by kernel_rfl)
        change wpList _ _ _ _ _ wr.drew
        have hbd : Below w.heap.size w wr.drew := bdrewN hbel 1
        generalize wr.drew = wd at *
        cases hE : (decide (x0 = y0) && decide (x1 = y1) && decide (x2 = y2))
        · go_wp2_with fail
          refine (eqGate_any _ _ _ _ _ _ _).mono ?_
          rintro e w3 ⟨rfl, hb3⟩
          rw [hE]
          go_wp2_with fail
          go_ret
          refine ⟨ret_bool ?_, hbd.trans (hb3.mono hbd.size)⟩
          symm
          simp only [Bool.and_eq_false_iff, decide_eq_false_iff_not] at hE
          rcases hE with (e | e) | e
          · exact eq_no Hx0.out Hy0.out e
          · exact eq_no Hx1.out Hy1.out e
          · exact eq_no Hx2.out Hy2.out e
        · go_wp2_with fail
          refine (eqGate_any _ _ _ _ _ _ _).mono ?_
          rintro e w3 ⟨rfl, hb3⟩
          rw [hE]
          go_wp2_with fail
          simp only [Bool.and_eq_true, decide_eq_true_eq] at hE
          obtain ⟨⟨e0, e1⟩, e2⟩ := hE
          have hst : xs.take (k * 3 + 2 + 1) = ys.take (k * 3 + 2 + 1) := (eq_step Hx2.out Hy2.out (eq_step Hx1.out Hy1.out (eq_step Hx0.out Hy0.out heq.out e0) e1) e2)
          rw [show k * 3 + 2 + 1 = (k + 1) * 3 from by omega] at hst
          have HS := Lib.hid hst
          clear hst
          go_roundw
          case rel => exact ⟨k + 1, by omega, by go_num, HS.out, hbd.trans (hb3.mono hbd.size)⟩
          case measure => simp [intOf] <;> omega
      · obtain rfl : k = n := by omega
        go_wp2
        go_ret
        exact ⟨ret_bool (eq_yes HA.out HB.out heq.out).symm, hbel⟩
  · go_enter Try.func65, Try.ntmps65
    have h1 : ((n : Int) != (m : Int)) = true := by simp; omega
    go_wp2
    go_ret
    exact ⟨ret_bool (by unfold eqB; symm; simp; rintro rfl; have e1 := ha.1; have e2 := hb.1; omega), Below.refl _ _⟩
/-- 'append(out, x)' of one Gate. -/
theorem wpList_append_Gate {w : World} {ops : Array Oper} {rest : List Oper} {o : Oper} {a : Act} {Q : Exit → Act → World → Prop} (hgd : o.guard = none) (s x : Operand)
    (ho : o.op = .call { callee := .builtin .append, args := #[s, x], argTypes := #[41, 41] })
    (B : Nat) (ao : Option Addr) (n cap : Nat) (xs : List Int) (u0 u1 u2 : Int) (hs : a.eval s = .slice ao n cap) (hx : a.eval x = .slice (some ⟨w.heap.size, 0, none⟩) 1 1)
    (hown : OwnF 3 87 B w ao n cap xs) (hn : n < 999999990) (hB : B ≤ w.heap.size)
    (h : ∀ ao' cap' w', OwnF 3 87 B w' ao' (n + 1) cap' (xs ++ [u0, u1, u2]) → w.grownBy w' (rowOf ao cap) → wpList Try.prog ops Q rest (a.put o.dst (.slice ao' (n + 1) cap')) w') :
    wpList Try.prog ops Q (o :: rest) a (w.alloc (.cells #[.int .i64 u0, .int .i64 u1, .int .i64 u2] 87)) :=
  wpList_append_f hgd s x 41 87 (.agg #[.int .i64 0, .int .i64 0, .int .i64 0]) 3 24 Try.underlying41 Gate_info rfl (by decide) (by decide) ho B ao n cap xs [u0, u1, u2] hs hx rfl hown hn hB h
end Go.Proofs.Ytilkgidilhgjeaa
