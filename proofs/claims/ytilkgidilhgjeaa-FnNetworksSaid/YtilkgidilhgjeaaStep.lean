/-
  Lists of the struct Step in the laws: copies, comparisons, marks (printed by gen_struct.py).
-/
import Derived.Test.YtilkgidilhgjeaaFlat
namespace Go.Proofs.Ytilkgidilhgjeaa
open Go.RowKit

theorem Step_info : (Try.prog.info? 62).map (fun i => (i.zero, i.size, i.bytes)) = some (some (.agg #[.int .i64 0, .int .i64 0]), 2, 16) := by kernel_rfl
theorem Step_size_l : (Try.prog.info? 77).map (·.size) = some 2 := by kernel_rfl
theorem Step_size_i : (Try.prog.info? 62).map (·.size) = some 2 := by kernel_rfl
theorem toStep_any (w : World) (x0 x1 : Int) : Calls Try.prog 50 #[.agg #[.int .i64 x0, .int .i64 x1]] w fun e w' => e = .returned (.agg #[.int .i64 x0, .int .i64 x1]) ∧ Below w.heap.size w w' := by
  go_enter Try.func50, Try.ntmps50
  go_wp2_with fail
  exact bodyPost_ret (v := .agg #[.int .i64 x0, .int .i64 x1]) (by simp [results, Try.results50, go_sem]) rfl ⟨rfl, (((Below.refl _ _).alloc (Nat.le_refl _) _).alloc (by simp) _).alloc (by simp; omega) _⟩
theorem szStepS_any (w : World) (ao : Option Addr) (n c : Nat) (left : Int) (h0 : 0 ≤ left) (h1 : left ≤ 1048576) (hn : n ≤ maxLen) : Calls Try.prog 8 #[.slice ao n c, .int .i64 left] w fun e w' => e = .returned (.int .i64 (szF left n)) ∧ w = w' := by
  unfold maxLen at hn
  by_cases hlt : left < n
  · go_enter Try.func8, Try.ntmps8
    go_wp2_with fail
    go_ret
    exact ⟨ret_int (by rw [szF, if_pos (by omega)]), rfl⟩
  · go_enter Try.func8, Try.ntmps8
    go_wp2_with fail
    go_ret
    exact ⟨ret_int (by rw [szF, if_neg (by omega)]), rfl⟩
theorem eqStep_any (w : World) (x0 x1 y0 y1 : Int) : Calls Try.prog 52 #[.agg #[.int .i64 x0, .int .i64 x1], .agg #[.int .i64 y0, .int .i64 y1]] w (RetB (decide (x0 = y0) && decide (x1 = y1)) w) := by
  have hb0 : Below w.heap.size w ((w.alloc (.cells #[.int .i64 x0, .int .i64 x1] 62)).alloc (.cells #[.int .i64 y0, .int .i64 y1] 62)) := ((Below.refl _ _).alloc (Nat.le_refl _) _).alloc (by simp) _
  go_enter Try.func52, Try.ntmps52
  go_wp2_with fail
  all_goals
    go_ret
    exact ⟨ret_bool (by simp at *; simp [*]), hb0⟩
/-- The copy that the laws make. -/
theorem toStepS_any (w : World) (ao : Option Addr) (n c : Nat) (xs : List Int) (ha : Flat 2 w w.heap.size ao n xs) : Calls Try.prog 10 #[.slice ao n c] w (RetF 2 62 xs w) := by
  have hn := ha.le
  obtain ⟨i0, hi, hz0, hz1, hz2⟩ := info_parts Step_info
  have hlen := Lib.hid ha.1
  go_enter Try.func10, Try.ntmps10
  go_wp2_with (at_make; refine wpList_make_full _ rfl _ _ 27 rfl w.heap.size 62 i0 (.agg #[.int .i64 0, .int .i64 0]) 2 Try.underlying27 hi hz0 hz1 _ _ _ _ n rfl rfl rfl rfl (by rw [hz2]; omega) (by unfold maxLen; omega) (Nat.le_refl _) ?_; intro w1 hown1 hg1)
  have hb1 : Below w.heap.size w w1 := (Below.refl _ _).grown hg1 (Nat.le_refl _) (by simp)
  obtain ⟨cs0, hown1⟩ : ∃ cs0, w1.ownsRow w.heap.size 62 2 (.slice (some ⟨w.heap.size, 0, none⟩) n n) n cs0 := ⟨_, hown1⟩
  have hl0 : cs0.length = n * 2 := hown1.1
  have HL := Lib.hid (show cs0.length = (xs.map (Value.int .i64)).length by rw [List.length_map, hlen.out, hl0])
  clear hl0
  go_loopw [4] (fun i wr => ∃ k : Nat, k ≤ n ∧ i = .int .i64 k ∧ wr.ownsRow w.heap.size 62 2 (.slice (some ⟨w.heap.size, 0, none⟩) n n) n ((xs.map (Value.int .i64)).take (k * 2) ++ cs0.drop (k * 2)) ∧ Below w.heap.size w wr) (fun i _ => n - (intOf i).toNat)
  case atStart => exact ⟨0, Nat.zero_le _, rfl, by simpa using hown1, hb1⟩
  case round =>
    obtain ⟨k, hk, rfl, hr, hbel⟩ := hrel
    by_cases hlt : k < n
    · obtain ⟨b1, o1, rfl, hbl, hat⟩ := ha.at (by decide) hlt
      obtain ⟨x0, hx0, hc0⟩ := hat 0 (by decide)
      have g0 : wr.cell? ⟨b1, o1 + k * 2, none⟩ = some (.int .i64 x0) := by exact (hbel.cell (by exact hbl)).trans hc0
      obtain ⟨x1, hx1, hc1⟩ := hat 1 (by decide)
      have g1 : wr.cell? ⟨b1, o1 + k * 2 + 1, none⟩ = some (.int .i64 x1) := by rw [Nat.add_assoc]; exact (hbel.cell (by exact hbl)).trans hc1
      have HR := Lib.hid hr
      have HX0 := Lib.hid hx0
      have HX1 := Lib.hid hx1
      clear hr hat hx0 hc0 hx1 hc1
      go_wp2_with fail
      refine (toStep_any _ _ _).mono ?_
      rintro e w2 ⟨rfl, hb2⟩
      have hr2 := ownsRow_below HR.out hb2 (Nat.le_refl _)
      have ht := there_of_row hr2 hlt
      obtain ⟨s0, f0⟩ := ht 0 (by decide)
      obtain ⟨v0, s0⟩ := Option.isSome_iff_exists.1 s0
      obtain ⟨s1, f1⟩ := ht 1 (by decide)
      obtain ⟨v1, s1⟩ := Option.isSome_iff_exists.1 s1
      simp only [Nat.add_zero] at s0 f0
      have HR2 := Lib.hid hr2
      clear hr2 ht
      go_wp2_with fail
      go_roundw
      case rel =>
        have hB2 : Below w.heap.size w w2 := hbel.trans (hb2.mono hbel.size)
        obtain ⟨r0, q0⟩ := World.ownsRow.stored HR2.out (k * 2) (.int .i64 x0)
        rw [take_set HL.out (map_get (show xs[k * 2]? = some x0 from HX0.out))] at r0
        have p0 := hB2.grown q0 hB2.size (by simp)
        obtain ⟨r1, q1⟩ := World.ownsRow.stored r0 (k * 2 + 1) (.int .i64 x1)
        rw [take_set HL.out (map_get (show xs[k * 2 + 1]? = some x1 from HX1.out))] at r1
        have p1 := p0.grown q1 p0.size (by simp)
        rw [show k * 2 + 1 + 1 = (k + 1) * 2 from by omega] at r1
        exact ⟨k + 1, by omega, by go_num, r1, p1⟩
      case measure => simp [intOf] <;> omega
    · obtain rfl : k = n := by omega
      go_wp2_with fail
      go_ret
      rw [List.take_of_length_le (by rw [List.length_map, hlen.out]; exact Nat.le_refl _), List.drop_of_length_le (by rw [HL.out, List.length_map, hlen.out]; exact Nat.le_refl _), List.append_nil] at hr
      exact ⟨_, _, _, rfl, ⟨hlen.out, hn, .inr ⟨_, rfl, hr⟩⟩, hbel⟩
set_option maxRecDepth 20000 in
theorem eqStepS_any (w : World) (B C : Nat) (ao bo : Option Addr) (n m c d : Nat) (xs ys : List Int) (ha : Flat 2 w B ao n xs) (hb : Flat 2 w C bo m ys) (hB : B ≤ w.heap.size) (hC : C ≤ w.heap.size) :
    Calls Try.prog 13 #[.slice ao n c, .slice bo m d] w (RetB (eqB xs ys) w) := by
  have hn := ha.le
  have hm := hb.le
  by_cases hnm : n = m
  · obtain rfl := hnm
    have HA := Lib.hid ha.1
    have HB := Lib.hid hb.1
    go_enter Try.func13, Try.ntmps13
    go_wp2
    go_loopw [5] (fun i wr => ∃ k : Nat, k ≤ n ∧ i = .int .i64 k ∧ Hid (xs.take (k * 2) = ys.take (k * 2)) ∧ Below w.heap.size w wr) (fun i _ => n - (intOf i).toNat)
    case atStart => exact ⟨0, Nat.zero_le _, rfl, by simp [Hid], Below.refl _ _⟩
    case round =>
      obtain ⟨k, hk, rfl, heq, hbel⟩ := hrel
      by_cases hlt : k < n
      · obtain ⟨b1, o1, rfl, hb1, hat⟩ := ha.at (by decide) hlt
        obtain ⟨b2, o2, rfl, hb2, hbt⟩ := hb.at (by decide) hlt
        obtain ⟨x0, hx0, cx0⟩ := hat 0 (by decide)
        have gx0 : wr.cell? ⟨b1, o1 + k * 2, none⟩ = some (.int .i64 x0) := by exact (hbel.cell (by exact Nat.lt_of_lt_of_le hb1 hB)).trans cx0
        have Hx0 := Lib.hid hx0
        obtain ⟨y0, hy0, cy0⟩ := hbt 0 (by decide)
        have gy0 : wr.cell? ⟨b2, o2 + k * 2, none⟩ = some (.int .i64 y0) := by exact (hbel.cell (by exact Nat.lt_of_lt_of_le hb2 hC)).trans cy0
        have Hy0 := Lib.hid hy0
        obtain ⟨x1, hx1, cx1⟩ := hat 1 (by decide)
        have gx1 : wr.cell? ⟨b1, o1 + k * 2 + 1, none⟩ = some (.int .i64 x1) := by rw [Nat.add_assoc]; exact (hbel.cell (by exact Nat.lt_of_lt_of_le hb1 hB)).trans cx1
        have Hx1 := Lib.hid hx1
        obtain ⟨y1, hy1, cy1⟩ := hbt 1 (by decide)
        have gy1 : wr.cell? ⟨b2, o2 + k * 2 + 1, none⟩ = some (.int .i64 y1) := by rw [Nat.add_assoc]; exact (hbel.cell (by exact Nat.lt_of_lt_of_le hb2 hC)).trans cy1
        have Hy1 := Lib.hid hy1
        clear hat hbt hx0 cx0 hy0 cy0 hx1 cx1 hy1 cy1
        go_wp2
        go_still_tail 8, (by kernel_rfl)
        change wpList _ _ _ _ _ wr.drew
        have hbd : Below w.heap.size w wr.drew := bdrewN hbel 1
        generalize wr.drew = wd at *
        cases hE : (decide (x0 = y0) && decide (x1 = y1))
        · go_wp2_with fail
          refine (eqStep_any _ _ _ _ _).mono ?_
          rintro e w3 ⟨rfl, hb3⟩
          rw [hE]
          go_wp2_with fail
          go_ret
          refine ⟨ret_bool ?_, hbd.trans (hb3.mono hbd.size)⟩
          symm
          simp only [Bool.and_eq_false_iff, decide_eq_false_iff_not] at hE
          rcases hE with e | e
          · exact eq_no Hx0.out Hy0.out e
          · exact eq_no Hx1.out Hy1.out e
        · go_wp2_with fail
          refine (eqStep_any _ _ _ _ _).mono ?_
          rintro e w3 ⟨rfl, hb3⟩
          rw [hE]
          go_wp2_with fail
          simp only [Bool.and_eq_true, decide_eq_true_eq] at hE
          obtain ⟨e0, e1⟩ := hE
          have hst : xs.take (k * 2 + 1 + 1) = ys.take (k * 2 + 1 + 1) := (eq_step Hx1.out Hy1.out (eq_step Hx0.out Hy0.out heq.out e0) e1)
          rw [show k * 2 + 1 + 1 = (k + 1) * 2 from by omega] at hst
          have HS := Lib.hid hst
          clear hst
          go_roundw
          case rel => exact ⟨k + 1, by omega, by go_num, HS.out, hbd.trans (hb3.mono hbd.size)⟩
          case measure => simp [intOf] <;> omega
      · obtain rfl : k = n := by omega
        go_wp2
        go_ret
        exact ⟨ret_bool (eq_yes HA.out HB.out heq.out).symm, hbel⟩
  · go_enter Try.func13, Try.ntmps13
    have h1 : ((n : Int) != (m : Int)) = true := by simp; omega
    go_wp2
    go_ret
    exact ⟨ret_bool (by unfold eqB; symm; simp; rintro rfl; have e1 := ha.1; have e2 := hb.1; omega), Below.refl _ _⟩
/-- Marking a slice that the call owns: it reads as the marks behind it; only its own row has turned. -/
theorem markStepS_any (w : World) (B : Nat) (ao : Option Addr) (n cap : Nat) (k0 : Int) (xs : List Int) (ho : OwnF 2 62 B w ao n cap xs) (hk0 : 0 ≤ k0) (hk1 : k0 ≤ 1000000000000) :
    Calls Try.prog 14 #[.slice ao n cap, .int .i64 k0] w fun e w' => e = .returned (.int .i64 (k0 + n * 2)) ∧ OwnF 2 62 B w' ao n cap (marks k0 (n * 2)) ∧ w.grownBy w' (rowOf ao cap) := by
  have hn := ho.le
  rcases Nat.eq_zero_or_pos n with rfl | hp
  · have hx : xs = [] := List.eq_nil_of_length_eq_zero (by have := ho.1; omega)
    subst hx
    go_enter Try.func14, Try.ntmps14
    go_wp2
    refine wp_loop_rounds 1 ?_
    rw [rounds_succ]
    go_wp2
    go_ret
    exact ⟨ret_int (by simp), by simpa [marks] using ho, World.grownBy.refl _ _⟩
  · obtain ⟨g, rfl, hBg, hgl, hrow⟩ := ho.2.2.some hp
    have hcap : cap ≠ 0 := by
      rcases hrow.2 with ⟨hv, h0⟩ | ⟨g', cap', cur, hv, _, _, hn', _⟩
      · omega
      · simp only [Value.slice.injEq] at hv
        obtain ⟨_, _, rfl⟩ := hv
        omega
    have HL := Lib.hid ho.1
    go_enter Try.func14, Try.ntmps14
    go_wp2
    go_loopw [1, 5] (fun q i wr => ∃ k : Nat, k ≤ n ∧ i = .int .i64 k ∧ q = .int .i64 (k0 + k * 2) ∧ wr.ownsRow B 62 2 (.slice (some ⟨g, 0, none⟩) n cap) n ((marks k0 (k * 2) ++ xs.drop (k * 2)).map (Value.int .i64)) ∧ w.grownBy wr (some g)) (fun _ i _ => n - (intOf i).toNat)
    case atStart => exact ⟨0, Nat.zero_le _, rfl, by simp, by simpa [marks] using hrow, World.grownBy.refl _ _⟩
    case round =>
      obtain ⟨k, hk, rfl, rfl, hr, hg⟩ := hrel
      by_cases hlt : k < n
      · have ht := there_of_row hr hlt
        obtain ⟨s0, f0⟩ := ht 0 (by decide)
        obtain ⟨v0, s0⟩ := Option.isSome_iff_exists.1 s0
        obtain ⟨s1, f1⟩ := ht 1 (by decide)
        obtain ⟨v1, s1⟩ := Option.isSome_iff_exists.1 s1
        simp only [Nat.add_zero] at s0 f0
        have HR := Lib.hid hr
        clear hr ht
        go_wp2
        go_roundw
        case rel =>
          obtain ⟨r0, q0⟩ := World.ownsRow.stored HR.out (k * 2) (.int .i64 (k0 + (k : Int) * 2))
          have m0 := mark_set (k0 := k0) (k := k * 2) HL.out (by omega)
          rw [show k0 + ((k * 2 : Nat) : Int) = k0 + (k : Int) * 2 from by omega] at m0
          rw [← List.map_set, m0] at r0
          have G0 := gtrans0 hg q0
          obtain ⟨r1, q1⟩ := World.ownsRow.stored r0 (k * 2 + 1) (.int .i64 (k0 + (k : Int) * 2 + 1))
          have m1 := mark_set (k0 := k0) (k := k * 2 + 1) HL.out (by omega)
          rw [show k0 + ((k * 2 + 1 : Nat) : Int) = k0 + (k : Int) * 2 + 1 from by omega] at m1
          rw [← List.map_set, m1] at r1
          have G1 := gtrans0 G0 q1
          rw [show k * 2 + 1 + 1 = (k + 1) * 2 from by omega] at r1
          exact ⟨k + 1, by omega, by go_num, by congr 1; omega, r1, G1⟩
        case measure => simp [intOf] <;> omega
      · obtain rfl : k = n := by omega
        go_wp2
        go_ret
        rw [List.drop_of_length_le (by rw [HL.out]; exact Nat.le_refl _), List.append_nil] at hr
        exact ⟨rfl, ⟨marks_length _ _, hn, .inr ⟨g, rfl, hr⟩⟩, by simpa [rowOf, hcap] using hg⟩
/-- 'append(out, x)' of one Step. -/
theorem wpList_append_Step {w : World} {ops : Array Oper} {rest : List Oper} {o : Oper} {a : Act} {Q : Exit → Act → World → Prop} (hgd : o.guard = none) (s x : Operand)
    (ho : o.op = .call { callee := .builtin .append, args := #[s, x], argTypes := #[27, 27] })
    (B : Nat) (ao : Option Addr) (n cap : Nat) (xs : List Int) (u0 u1 : Int) (hs : a.eval s = .slice ao n cap) (hx : a.eval x = .slice (some ⟨w.heap.size, 0, none⟩) 1 1)
    (hown : OwnF 2 62 B w ao n cap xs) (hn : n < 999999990) (hB : B ≤ w.heap.size)
    (h : ∀ ao' cap' w', OwnF 2 62 B w' ao' (n + 1) cap' (xs ++ [u0, u1]) → w.grownBy w' (rowOf ao cap) → wpList Try.prog ops Q rest (a.put o.dst (.slice ao' (n + 1) cap')) w') :
    wpList Try.prog ops Q (o :: rest) a (w.alloc (.cells #[.int .i64 u0, .int .i64 u1] 62)) :=
  wpList_append_f hgd s x 27 62 (.agg #[.int .i64 0, .int .i64 0]) 2 16 Try.underlying27 Step_info rfl (by decide) (by decide) ho B ao n cap xs [u0, u1] hs hx rfl hown hn hB h
open Go.ChangeShapes Go.WideShapes in
theorem arg_Step {H : Type} {enc : TypeId × Value → H} {W : World} {fuel : Nat} {a : Option Addr} {len cap : Nat} {x : DataW H × List MemPlace} (hf : DataW.trod enc Try.prog W 0 (fun _ => true) true fuel 22 [.slice a len cap] = some x) : ∃ zs, FlatArg 2 W a len zs := by
  rcases Go.Deep.open_slice_pairs Try.underlying22 Try.underlying77 (by kernel_rfl) rfl rfl (by kernel_rfl) (by kernel_rfl) hf with ⟨hcs, _⟩ | ⟨ad, l, cp, m, fu, V0, V1, D0, D1, P0, P1, hcs, _, hl, hm, hmm, _, hx⟩
  · simp at hcs
    obtain ⟨rfl, rfl, rfl⟩ := hcs
    exact ⟨[], flat_nil W⟩
  · simp at hcs hmm
    obtain ⟨rfl, rfl, rfl⟩ := hcs
    subst hmm
    refine ⟨_, flat_of_open (Nat.le_trans hl hm) (fun j => if j % 2 = 0 then intOf (V0 (j / 2)) else intOf (V1 (j / 2))) fun i hi => ?_⟩
    obtain ⟨e0, e1, t0, t1⟩ := hx (i / 2) (by omega)
    obtain ⟨n0, h0, _⟩ := DataW.trod_int Try.underlying3 t0
    obtain ⟨n1, h1, _⟩ := DataW.trod_int Try.underlying3 t1
    simp at h0 h1
    rcases Nat.mod_two_eq_zero_or_one i with hz | hz
    · rw [if_pos hz, h0, show i = i / 2 * 2 from by omega]
      rw [h0] at e0
      simpa [intOf] using e0
    · rw [if_neg (by omega), h1, show i = i / 2 * 2 + 1 from by omega]
      rw [h1] at e1
      simpa [intOf, show (i / 2 * 2 + 1) / 2 = i / 2 from by omega] using e1
end Go.Proofs.Ytilkgidilhgjeaa
