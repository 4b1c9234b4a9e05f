/-
  Circuits: the values of all wires.
-/
import Derived.Test.YtbdccgodamkljaaCirc5
import Derived.Test.YtbdccgodamkljaaDigest
import Derived.StillTailTactics
import Derived.Deep.RegionLaw
namespace Go.Proofs.Ytbdccgodamkljaa
open Go.RowKit
set_option linter.unusedVariables false
set_option linter.unusedSimpArgs false

/-- 'append(out, x)' of one int as one step of a region that draws. -/
theorem step_append_i {ops : Array Oper} {o : Oper} {a : Act} {w : World} {K : Act → World → Prop} {Q : Exit → Act → World → Prop} {E : Prop} (hgd : o.guard = none) (s x : Operand)
    (ho : o.op = .call { callee := .builtin .append, args := #[s, x], argTypes := #[23, 23] })
    (B : Nat) (ao : Option Addr) (n cap : Nat) (xs : List Int) (u : Int) (hs : a.eval s = .slice ao n cap) (hx : a.eval x = .slice (some ⟨w.heap.size, 0, none⟩) 1 1)
    (hown : OwnI B w ao n cap xs) (hn : n < 999999990) (hB : B ≤ w.heap.size)
    (hK : ∀ ao' cap' w', OwnI B w' ao' (n + 1) cap' (xs ++ [u]) → w.grownBy w' (rowOf ao cap) → K (a.put o.dst (.slice ao' (n + 1) cap')) w') :
    if Region.wanted o (yielded ops a.tmps) = true then Oper.wp Try.prog o a (w.alloc (.cells #[.int .i64 u] 3)) K Q else E := by
  rw [if_pos (by simp [Region.wanted, hgd])]
  obtain ⟨i, hi1, hi2, hi3, hi4⟩ := info_parts int_info
  obtain ⟨ao', cap', w', hr, h2, h3⟩ := run_append_any (P := Try.prog) (w.alloc (.cells #[.int .i64 u] 3)) 23 o.type 3 i (.int .i64 0) 1 8 Try.underlying23 hi1 hi2 hi3 hi4 rfl (by decide) B ao n cap (xs.map (Value.int .i64)) (hown.2.2.alloc _) _ _ 1 1 [.int .i64 u] rfl (cellsAt_new w [.int .i64 u] 3) (by simp [Value.oneCell']) (by unfold maxLen; omega) (by omega) (by simp; omega)
  unfold Oper.wp execOp
  simp only [ho, resolve, invoke, builtin, Sem.run_bind, Sem.run_pure, Result.andThen_ok, List.map_toArray, List.map_cons, List.map_nil, hs, hx, hr]
  exact hK _ _ _ ⟨by simp [hown.1], by omega, by simpa using h2⟩ (grownBy_old h3)
def atI (o : List Int) (i : Int) : Int := o.getD i.toNat 0
theorem atI_get {o : List Int} {i : Nat} {v : Int} (h : o[i]? = some v) : atI o (i : Int) = v := by simp [atI, List.getD, h]
/-- The value of a gate. -/
def gval (v : List Int) (g : Int × Int × Int) : Int :=
  if g.1 = 0 then bits .xor .i64 (atI v g.2.1) (atI v g.2.2) else if g.1 = 1 then bits .and .i64 (atI v g.2.1) (atI v g.2.2) else if g.1 = 2 then 1 - atI v g.2.1 else 1
def valL (l : List (Int × Int × Int)) (v : List Int) : List Int := l.foldl (fun v g => v ++ [gval v g]) v
theorem valL_step {l : List (Int × Int × Int)} {k : Nat} {g : Int × Int × Int} (h : l[k]? = some g) (v : List Int) : valL (l.take (k + 1)) v = valL (l.take k) v ++ [gval (valL (l.take k) v) g] := by
  rw [valL, valL, List.take_add_one, h]; simp [List.foldl_append]
theorem valL_length (l : List (Int × Int × Int)) : ∀ v : List Int, (valL l v).length = v.length + l.length := by
  induction l with
  | nil => intro v; rfl
  | cons g l ih => intro v; rw [show valL (g :: l) v = valL l (v ++ [gval v g]) from rfl, ih]; simp; omega
theorem xor01 {x y : Int} (hx : 0 ≤ x ∧ x ≤ 1) (hy : 0 ≤ y ∧ y ≤ 1) : 0 ≤ bits .xor .i64 x y ∧ bits .xor .i64 x y ≤ 1 := by
  rcases (show x = 0 ∨ x = 1 by omega) with rfl | rfl <;> rcases (show y = 0 ∨ y = 1 by omega) with rfl | rfl <;> decide
theorem and01 {x y : Int} (hx : 0 ≤ x ∧ x ≤ 1) (hy : 0 ≤ y ∧ y ≤ 1) : 0 ≤ bits .and .i64 x y ∧ bits .and .i64 x y ≤ 1 := by
  rcases (show x = 0 ∨ x = 1 by omega) with rfl | rfl <;> rcases (show y = 0 ∨ y = 1 by omega) with rfl | rfl <;> decide
theorem all01_get {xs : List Int} (h : allIn 0 1 xs = true) {k : Nat} {x : Int} (hx : xs[k]? = some x) : 0 ≤ x ∧ x ≤ 1 := allIn_iff.1 h x (List.mem_of_getElem? hx)
theorem all01_snoc {xs : List Int} (h : allIn 0 1 xs = true) {x : Int} (hx : 0 ≤ x ∧ x ≤ 1) : allIn 0 1 (xs ++ [x]) = true := by
  rw [allIn_iff] at h ⊢
  intro y hy
  rcases List.mem_append.1 hy with hy | hy
  · exact h y hy
  · simp at hy; subst hy; exact hx
theorem OwnI.drewN {B : Nat} {w : World} {ao : Option Addr} {n cap : Nat} {xs : List Int} (h : OwnI B w ao n cap xs) (k : Nat) : OwnI B (w.drewN k) ao n cap xs := h
/-- What a valid gate of each kind reads. -/
theorem gate01 {own : Int} {x y z : Int} (h : gateB own (x, y, z) = true) (hx : x = 0 ∨ x = 1) : (0 ≤ y ∧ y < own) ∧ (0 ≤ z ∧ z < own) := by
  have e : (inB y 0 (own - 1) && inB z 0 (own - 1)) = true := by
    rcases hx with rfl | rfl <;> simpa [gateB] using h
  simp only [Bool.and_eq_true, inB_iff] at e
  omega
theorem gate2 {own : Int} {y z : Int} (h : gateB own (2, y, z) = true) : (0 ≤ y ∧ y < own) ∧ z = 0 := by
  have e : (inB y 0 (own - 1) && decide (z = 0)) = true := by simpa [gateB] using h
  simp only [Bool.and_eq_true, inB_iff, decide_eq_true_eq] at e
  omega
theorem values_any (w : World) (i0 i1 : Int) (ga oa bo : Option Addr) (gn gc on oc n d : Nat) (gs x : List Int) (hg : Flat 3 w w.heap.size ga gn gs) (hx : Ints w w.heap.size bo n x) (hn : n ≤ 40) (hgn : gn ≤ 300) (hok : okG (gts gs) n = true) (hb : allIn 0 1 x = true) :
    Calls Try.prog 91 #[circV i0 i1 ga gn gc oa on oc, .slice bo n d] w (RetI (valL (gts gs) x) w) := by
  have HOK := Lib.hid hok
  have hlx := Lib.hid hx.1
  have hml := Lib.hid (gts_length gn gs hg.1)
  have HB := Lib.hid hb
  clear hok hb
  have hb0 : Below w.heap.size w (w.alloc (.cells #[.int .i64 i0, .int .i64 i1, .slice ga gn gc, .slice oa on oc] 30)) := (Below.refl _ _).alloc (Nat.le_refl _) _
  have hbx := boxC_new w i0 i1 ga gn gc oa on oc 30
  have hsz : w.heap.size < (w.alloc (.cells #[.int .i64 i0, .int .i64 i1, .slice ga gn gc, .slice oa on oc] 30)).heap.size := by simp
  have hx0 := (hx.below hb0 (Nat.le_refl _)).up hb0.size
  unfold circV
  go_enter Try.func91, Try.ntmps91
  go_wp2_with fail
  generalize w.alloc (.cells #[.int .i64 i0, .int .i64 i1, .slice ga gn gc, .slice oa on oc] 30) = w0 at *
  refine (cloneI_any _ _ _ _ _ _ hx0 (Nat.le_refl _) (by omega)).mono ?_
  rintro e w1 ⟨a1, n1, c1, rfl, ho1, hb1⟩
  obtain rfl : n1 = n := by have := ho1.1; rw [hlx.out] at this; exact this.symm
  obtain ⟨c0, c1', c2, c3⟩ := hbx.below hb1 hsz
  have hbw1 := hb0.trans (hb1.mono hb0.size)
  replace ho1 := ho1.up hb0.size
  go_wp2_with fail
  go_loopw [5, 14] (fun out i wr => ∃ (k : Nat) (co : Option Addr) (cap : Nat), k ≤ gn ∧ i = .int .i64 k ∧ out = .slice co (n1 + k) cap ∧ OwnI w.heap.size wr co (n1 + k) cap (valL ((gts gs).take k) x) ∧ Hid (allIn 0 1 (valL ((gts gs).take k) x) = true) ∧ Below w.heap.size w wr) (fun _ i _ => gn - (intOf i).toNat)
  case atStart => exact ⟨0, _, _, Nat.zero_le _, rfl, rfl, by simpa [valL] using ho1, HB.out, hbw1⟩
  case round =>
    obtain ⟨k, co, cap, hk, rfl, rfl, hout, hbits, hbel⟩ := hrel
    by_cases hlt : k < gn
    · obtain ⟨b1, o1, kx, y, z, rfl, hbb, hgk, q0, q1, q2⟩ := hg.gate hlt
      have g0 : wr.cell? ⟨b1, o1 + k * 3, none⟩ = some (.int .i64 kx) := (hbel.cell (by exact hbb)).trans q0
      have g1 : wr.cell? ⟨b1, o1 + k * 3 + 1, none⟩ = some (.int .i64 y) := (hbel.cell (by exact hbb)).trans q1
      have g2 : wr.cell? ⟨b1, o1 + k * 3 + 2, none⟩ = some (.int .i64 z) := (hbel.cell (by exact hbb)).trans q2
      have hgb := okG_at _ _ _ _ HOK.out hgk
      have hkx := gateB_kind hgb
      have HSTEP := Lib.hid (valL_step hgk x)
      obtain ⟨V, hV⟩ : ∃ V, V = valL ((gts gs).take k) x := ⟨_, rfl⟩
      rw [← hV] at hout HSTEP hbits
      have hol := hout.1
      clear q0 q1 q2 hgk hV
      have hal : Below wr.heap.size wr (wr.alloc (.cells #[.int .i64 kx, .int .i64 y, .int .i64 z] 68)) := (Below.refl _ _).alloc (Nat.le_refl _) _
      have hbel2 := hbel.trans (hal.mono hbel.size)
      have hout2 := hout.below hal (Nat.le_refl _)
      have hbg := heap_alloc_new wr (.cells #[.int .i64 kx, .int .i64 y, .int .i64 z] 68)
      have HBG := Lib.hid hbg
      clear hbg
      by_cases k0 : kx = 0
      · subst k0
        obtain ⟨⟨ya, yb⟩, za, zb⟩ := gate01 hgb (by simp)
        obtain ⟨a, rfl⟩ := Int.eq_ofNat_of_zero_le ya
        obtain ⟨b, rfl⟩ := Int.eq_ofNat_of_zero_le za
        obtain ⟨u, hu⟩ := get_at (i := a) hol (by omega)
        obtain ⟨v, hv⟩ := get_at (i := b) hol (by omega)
        have HR : Hid (gval V (0, (a : Int), (b : Int)) = bits .xor .i64 u v) := by show _ = _; simp [gval, atI_get hu, atI_get hv]
        have HR2 := Lib.hid (xor01 (all01_get hbits.out hu) (all01_get hbits.out hv))
        obtain ⟨g, rfl, _, _⟩ := hout.blk (by omega)
        have y0 := hout2.cell hu
        have y1 := hout2.cell hv
        clear hu hv hgb hkx ya za hol hal hout
        go_wp2_with fail
        generalize wr.alloc (.cells #[.int .i64 0, .int .i64 (a : Int), .int .i64 (b : Int)] 68) = W2 at *
        have e0 : W2.cell? ⟨wr.heap.size, 0, none⟩ = some (.int .i64 0) := by rw [cell_of_row W2 _ 0 _ _ (0, 0) HBG.out]; rfl
        have e1 : W2.cell? ⟨wr.heap.size, 1, none⟩ = some (.int .i64 (a : Int)) := by rw [cell_of_row W2 _ 1 _ _ (0, 0) HBG.out]; rfl
        have e2 : W2.cell? ⟨wr.heap.size, 2, none⟩ = some (.int .i64 (b : Int)) := by rw [cell_of_row W2 _ 2 _ _ (0, 0) HBG.out]; rfl
        go_quiet (fail)
        have hout3 := hout2.drewN nq
        have hbel3 := bdrewN hbel2 nq
        go_wp2_with (at_builtin; refine wpList_append_i rfl _ _ rfl w.heap.size _ _ _ _ _ rfl rfl hout3 (by omega) hbel3.size ?_; intro ao' cap' w4 hown4 hg4)
        have hbr4 := below_append hbel3 hout3.2.2 hg4 hbel3.size
        go_roundw
        case rel => exact ⟨k + 1, ao', cap', by omega, by go_num, by rw [Nat.add_assoc], by rw [← Nat.add_assoc, HSTEP.out, HR.out]; exact hown4, by rw [HSTEP.out, HR.out]; exact all01_snoc hbits.out HR2.out, hbr4⟩
        case measure => simp [intOf] <;> omega
      by_cases k1 : kx = 1
      · subst k1
        obtain ⟨⟨ya, yb⟩, za, zb⟩ := gate01 hgb (by simp)
        obtain ⟨a, rfl⟩ := Int.eq_ofNat_of_zero_le ya
        obtain ⟨b, rfl⟩ := Int.eq_ofNat_of_zero_le za
        obtain ⟨u, hu⟩ := get_at (i := a) hol (by omega)
        obtain ⟨v, hv⟩ := get_at (i := b) hol (by omega)
        have HR : Hid (gval V (1, (a : Int), (b : Int)) = bits .and .i64 u v) := by show _ = _; simp [gval, atI_get hu, atI_get hv]
        have HR2 := Lib.hid (and01 (all01_get hbits.out hu) (all01_get hbits.out hv))
        obtain ⟨g, rfl, _, _⟩ := hout.blk (by omega)
        have y0 := hout2.cell hu
        have y1 := hout2.cell hv
        clear hu hv hgb hkx ya za hol hal hout
        go_wp2_with fail
        generalize wr.alloc (.cells #[.int .i64 1, .int .i64 (a : Int), .int .i64 (b : Int)] 68) = W2 at *
        have e0 : W2.cell? ⟨wr.heap.size, 0, none⟩ = some (.int .i64 1) := by rw [cell_of_row W2 _ 0 _ _ (0, 0) HBG.out]; rfl
        have e1 : W2.cell? ⟨wr.heap.size, 1, none⟩ = some (.int .i64 (a : Int)) := by rw [cell_of_row W2 _ 1 _ _ (0, 0) HBG.out]; rfl
        have e2 : W2.cell? ⟨wr.heap.size, 2, none⟩ = some (.int .i64 (b : Int)) := by rw [cell_of_row W2 _ 2 _ _ (0, 0) HBG.out]; rfl
        go_quiet (fail)
        have hout3 := hout2.drewN nq
        have hbel3 := bdrewN hbel2 nq
        go_wp2_with (at_builtin; refine wpList_append_i rfl _ _ rfl w.heap.size _ _ _ _ _ rfl rfl hout3 (by omega) hbel3.size ?_; intro ao' cap' w4 hown4 hg4)
        have hbr4 := below_append hbel3 hout3.2.2 hg4 hbel3.size
        go_roundw
        case rel => exact ⟨k + 1, ao', cap', by omega, by go_num, by rw [Nat.add_assoc], by rw [← Nat.add_assoc, HSTEP.out, HR.out]; exact hown4, by rw [HSTEP.out, HR.out]; exact all01_snoc hbits.out HR2.out, hbr4⟩
        case measure => simp [intOf] <;> omega
      by_cases k2 : kx = 2
      · subst k2
        obtain ⟨⟨ya, yb⟩, rfl⟩ := gate2 hgb
        obtain ⟨a, rfl⟩ := Int.eq_ofNat_of_zero_le ya
        obtain ⟨u, hu⟩ := get_at (i := a) hol (by omega)
        have hub := all01_get hbits.out hu
        have HR : Hid (gval V (2, (a : Int), 0) = 1 - u) := by show _ = _; simp [gval, atI_get hu]
        have HR2 : Hid (0 ≤ 1 - u ∧ 1 - u ≤ 1) := by show _ ∧ _; omega
        obtain ⟨g, rfl, _, _⟩ := hout.blk (by omega)
        have y0 := hout2.cell hu
        clear hu hgb hkx ya hol hal hout
        go_wp2_with (at_builtin; refine wpList_append_i rfl _ _ rfl w.heap.size _ _ _ _ _ rfl (by first | rfl | (simp; rfl)) hout2 (by omega) hbel2.size ?_; intro ao' cap' w4 hown4 hg4)
        have hbr4 := below_append hbel2 hout2.2.2 hg4 hbel2.size
        go_roundw
        case rel => exact ⟨k + 1, ao', cap', by omega, by go_num, by rw [Nat.add_assoc], by rw [← Nat.add_assoc, HSTEP.out, HR.out]; exact hown4, by rw [HSTEP.out, HR.out]; exact all01_snoc hbits.out HR2.out, hbr4⟩
        case measure => simp [intOf] <;> omega
      · obtain rfl : kx = 3 := by simp at hkx; omega
        have HR : Hid (gval V (3, y, z) = 1) := by show _ = _; simp [gval]
        have HR2 : Hid (0 ≤ (1 : Int) ∧ (1 : Int) ≤ 1) := by show _ ∧ _; omega
        clear hgb hkx hol hal hout
        go_wp2_with (at_builtin; refine wpList_append_i rfl _ _ rfl w.heap.size _ _ _ _ _ rfl (by first | rfl | (simp; rfl)) hout2 (by omega) hbel2.size ?_; intro ao' cap' w4 hown4 hg4)
        have hbr4 := below_append hbel2 hout2.2.2 hg4 hbel2.size
        go_roundw
        case rel => exact ⟨k + 1, ao', cap', by omega, by go_num, by rw [Nat.add_assoc], by rw [← Nat.add_assoc, HSTEP.out, HR.out]; exact hown4, by rw [HSTEP.out, HR.out]; exact all01_snoc hbits.out HR2.out, hbr4⟩
        case measure => simp [intOf] <;> omega
    · obtain rfl : k = gn := by omega
      go_wp2_with fail
      go_ret
      rw [List.take_of_length_le (by rw [hml.out]; exact Nat.le_refl _)] at hout
      exact ⟨_, _, _, rfl, hout, hbel⟩
set_option maxRecDepth 20000 in
set_option maxHeartbeats 1600000 in
theorem ciValues_any (w : World) (i0 i1 : Int) (ga oa bo : Option Addr) (gn gc on oc n d : Nat) (gs x : List Int) (hg : Flat 3 w w.heap.size ga gn gs) (hx : Ints w w.heap.size bo n x) (hn : n ≤ 40) (hgn : gn ≤ 300) (hok : okG (gts gs) n = true) (hb : allIn 0 1 x = true) :
    Calls Try.prog 88 #[circV i0 i1 ga gn gc oa on oc, .slice bo n d] w (RetI (valL (gts gs) x) w) := by
  have HOK := Lib.hid hok
  have hlx := Lib.hid hx.1
  have hml := Lib.hid (gts_length gn gs hg.1)
  have HB := Lib.hid hb
  clear hok hb
  have hb0 : Below w.heap.size w (w.alloc (.cells #[.int .i64 i0, .int .i64 i1, .slice ga gn gc, .slice oa on oc] 30)) := (Below.refl _ _).alloc (Nat.le_refl _) _
  have hbx := boxC_new w i0 i1 ga gn gc oa on oc 30
  have hsz : w.heap.size < (w.alloc (.cells #[.int .i64 i0, .int .i64 i1, .slice ga gn gc, .slice oa on oc] 30)).heap.size := by simp
  have hx0 := (hx.below hb0 (Nat.le_refl _)).up hb0.size
  unfold circV
  go_enter Try.func88, Try.ntmps88
  go_wp2_with fail
  generalize w.alloc (.cells #[.int .i64 i0, .int .i64 i1, .slice ga gn gc, .slice oa on oc] 30) = w0 at *
  refine (l1Own_any _ _ _ _ _ _ hx0 (Nat.le_refl _) (by omega)).mono ?_
  rintro e w1 ⟨a1, n1, c1, rfl, ho1, hb1⟩
  obtain rfl : n1 = n := by have := ho1.1; rw [hlx.out] at this; exact this.symm
  obtain ⟨c0, c1', c2, c3⟩ := hbx.below hb1 hsz
  have hbw1 := hb0.trans (hb1.mono hb0.size)
  replace ho1 := ho1.up hb0.size
  go_wp2_with fail
  go_loopw [5, 13] (fun out i wr => ∃ (k : Nat) (co : Option Addr) (cap : Nat), k ≤ gn ∧ i = .int .i64 k ∧ out = .slice co (n1 + k) cap ∧ OwnI w.heap.size wr co (n1 + k) cap (valL ((gts gs).take k) x) ∧ Hid (allIn 0 1 (valL ((gts gs).take k) x) = true) ∧ Below w.heap.size w wr) (fun _ i _ => gn - (intOf i).toNat)
  case atStart => exact ⟨0, _, _, Nat.zero_le _, rfl, rfl, by simpa [valL] using ho1, HB.out, hbw1⟩
  case round =>
    obtain ⟨k, co, cap, hk, rfl, rfl, hout, hbits, hbel⟩ := hrel
    by_cases hlt : k < gn
    · obtain ⟨b1, o1, kx, y, z, rfl, hbb, hgk, q0, q1, q2⟩ := hg.gate hlt
      have g0 : wr.cell? ⟨b1, o1 + k * 3, none⟩ = some (.int .i64 kx) := (hbel.cell (by exact hbb)).trans q0
      have g1 : wr.cell? ⟨b1, o1 + k * 3 + 1, none⟩ = some (.int .i64 y) := (hbel.cell (by exact hbb)).trans q1
      have g2 : wr.cell? ⟨b1, o1 + k * 3 + 2, none⟩ = some (.int .i64 z) := (hbel.cell (by exact hbb)).trans q2
      have hgb := okG_at _ _ _ _ HOK.out hgk
      have hkx := gateB_kind hgb
      have HSTEP := Lib.hid (valL_step hgk x)
      obtain ⟨V, hV⟩ : ∃ V, V = valL ((gts gs).take k) x := ⟨_, rfl⟩
      rw [← hV] at hout HSTEP hbits
      have hol := hout.1
      clear q0 q1 q2 hgk hV
      have hal : Below wr.heap.size wr (wr.alloc (.cells #[.int .i64 kx, .int .i64 y, .int .i64 z] 68)) := (Below.refl _ _).alloc (Nat.le_refl _) _
      have hbel2 := hbel.trans (hal.mono hbel.size)
      have hout2 := hout.below hal (Nat.le_refl _)
      have hbg := heap_alloc_new wr (.cells #[.int .i64 kx, .int .i64 y, .int .i64 z] 68)
      have HBG := Lib.hid hbg
      clear hbg
      by_cases k0 : kx = 0
      · subst k0
        obtain ⟨⟨ya, yb⟩, za, zb⟩ := gate01 hgb (by simp)
        obtain ⟨a, rfl⟩ := Int.eq_ofNat_of_zero_le ya
        obtain ⟨b, rfl⟩ := Int.eq_ofNat_of_zero_le za
        obtain ⟨u, hu⟩ := get_at (i := a) hol (by omega)
        obtain ⟨v, hv⟩ := get_at (i := b) hol (by omega)
        have HR : Hid (gval V (0, (a : Int), (b : Int)) = bits .xor .i64 u v) := by show _ = _; simp [gval, atI_get hu, atI_get hv]
        have HR2 := Lib.hid (xor01 (all01_get hbits.out hu) (all01_get hbits.out hv))
        obtain ⟨g, rfl, _, _⟩ := hout.blk (by omega)
        have y0 := hout2.cell hu
        have y1 := hout2.cell hv
        clear hu hv hgb hkx ya za hol hal hout
        go_wp2_with fail
        generalize wr.alloc (.cells #[.int .i64 0, .int .i64 (a : Int), .int .i64 (b : Int)] 68) = W2 at *
        have e0 : W2.cell? ⟨wr.heap.size, 0, none⟩ = some (.int .i64 0) := by rw [cell_of_row W2 _ 0 _ _ (0, 0) HBG.out]; rfl
        have e1 : W2.cell? ⟨wr.heap.size, 1, none⟩ = some (.int .i64 (a : Int)) := by rw [cell_of_row W2 _ 1 _ _ (0, 0) HBG.out]; rfl
        have e2 : W2.cell? ⟨wr.heap.size, 2, none⟩ = some (.int .i64 (b : Int)) := by rw [cell_of_row W2 _ 2 _ _ (0, 0) HBG.out]; rfl
        go_region_law (refine step_append_i rfl _ _ rfl w.heap.size _ _ _ _ _ rfl (by first | rfl | (simp; rfl)) (hout2.drewN 1) (by omega) (bdrewN hbel2 1).size ?_; intro ao' cap' w4 hown4 hg4)
        all_goals
          have hbr4 := below_append (bdrewN hbel2 1) (hout2.drewN 1).2.2 hg4 (bdrewN hbel2 1).size
          go_wp2_with fail
          go_roundw
          case rel => exact ⟨k + 1, ao', cap', by omega, by go_num, by rw [Nat.add_assoc], by rw [← Nat.add_assoc, HSTEP.out, HR.out]; exact hown4, by rw [HSTEP.out, HR.out]; exact all01_snoc hbits.out HR2.out, hbr4⟩
          case measure => simp [intOf] <;> omega
      by_cases k1 : kx = 1
      · subst k1
        obtain ⟨⟨ya, yb⟩, za, zb⟩ := gate01 hgb (by simp)
        obtain ⟨a, rfl⟩ := Int.eq_ofNat_of_zero_le ya
        obtain ⟨b, rfl⟩ := Int.eq_ofNat_of_zero_le za
        obtain ⟨u, hu⟩ := get_at (i := a) hol (by omega)
        obtain ⟨v, hv⟩ := get_at (i := b) hol (by omega)
        have HR : Hid (gval V (1, (a : Int), (b : Int)) = bits .and .i64 u v) := by show _ = _; simp [gval, atI_get hu, atI_get hv]
        have HR2 := Lib.hid (and01 (all01_get hbits.out hu) (all01_get hbits.out hv))
        obtain ⟨g, rfl, _, _⟩ := hout.blk (by omega)
        have y0 := hout2.cell hu
        have y1 := hout2.cell hv
        clear hu hv hgb hkx ya za hol hal hout
        go_wp2_with fail
        generalize wr.alloc (.cells #[.int .i64 1, .int .i64 (a : Int), .int .i64 (b : Int)] 68) = W2 at *
        have e0 : W2.cell? ⟨wr.heap.size, 0, none⟩ = some (.int .i64 1) := by rw [cell_of_row W2 _ 0 _ _ (0, 0) HBG.out]; rfl
        have e1 : W2.cell? ⟨wr.heap.size, 1, none⟩ = some (.int .i64 (a : Int)) := by rw [cell_of_row W2 _ 1 _ _ (0, 0) HBG.out]; rfl
        have e2 : W2.cell? ⟨wr.heap.size, 2, none⟩ = some (.int .i64 (b : Int)) := by rw [cell_of_row W2 _ 2 _ _ (0, 0) HBG.out]; rfl
        go_region_law (refine step_append_i rfl _ _ rfl w.heap.size _ _ _ _ _ rfl (by first | rfl | (simp; rfl)) (hout2.drewN 1) (by omega) (bdrewN hbel2 1).size ?_; intro ao' cap' w4 hown4 hg4)
        all_goals
          have hbr4 := below_append (bdrewN hbel2 1) (hout2.drewN 1).2.2 hg4 (bdrewN hbel2 1).size
          go_wp2_with fail
          go_roundw
          case rel => exact ⟨k + 1, ao', cap', by omega, by go_num, by rw [Nat.add_assoc], by rw [← Nat.add_assoc, HSTEP.out, HR.out]; exact hown4, by rw [HSTEP.out, HR.out]; exact all01_snoc hbits.out HR2.out, hbr4⟩
          case measure => simp [intOf] <;> omega
      by_cases k2 : kx = 2
      · subst k2
        obtain ⟨⟨ya, yb⟩, rfl⟩ := gate2 hgb
        obtain ⟨a, rfl⟩ := Int.eq_ofNat_of_zero_le ya
        obtain ⟨u, hu⟩ := get_at (i := a) hol (by omega)
        have hub := all01_get hbits.out hu
        have HR : Hid (gval V (2, (a : Int), 0) = 1 - u) := by show _ = _; simp [gval, atI_get hu]
        have HR2 : Hid (0 ≤ 1 - u ∧ 1 - u ≤ 1) := by show _ ∧ _; omega
        obtain ⟨g, rfl, _, _⟩ := hout.blk (by omega)
        have y0 := hout2.cell hu
        clear hu hgb hkx ya hol hal hout
        go_wp2_with (at_builtin; refine wpList_append_i rfl _ _ rfl w.heap.size _ _ _ _ _ rfl (by first | rfl | (simp; rfl)) hout2 (by omega) hbel2.size ?_; intro ao' cap' w4 hown4 hg4)
        have hbr4 := below_append hbel2 hout2.2.2 hg4 hbel2.size
        go_roundw
        case rel => exact ⟨k + 1, ao', cap', by omega, by go_num, by rw [Nat.add_assoc], by rw [← Nat.add_assoc, HSTEP.out, HR.out]; exact hown4, by rw [HSTEP.out, HR.out]; exact all01_snoc hbits.out HR2.out, hbr4⟩
        case measure => simp [intOf] <;> omega
      · obtain rfl : kx = 3 := by simp at hkx; omega
        have HR : Hid (gval V (3, y, z) = 1) := by show _ = _; simp [gval]
        have HR2 : Hid (0 ≤ (1 : Int) ∧ (1 : Int) ≤ 1) := by show _ ∧ _; omega
        clear hgb hkx hol hal hout
        go_wp2_with (at_builtin; refine wpList_append_i rfl _ _ rfl w.heap.size _ _ _ _ _ rfl (by first | rfl | (simp; rfl)) hout2 (by omega) hbel2.size ?_; intro ao' cap' w4 hown4 hg4)
        have hbr4 := below_append hbel2 hout2.2.2 hg4 hbel2.size
        go_roundw
        case rel => exact ⟨k + 1, ao', cap', by omega, by go_num, by rw [Nat.add_assoc], by rw [← Nat.add_assoc, HSTEP.out, HR.out]; exact hown4, by rw [HSTEP.out, HR.out]; exact all01_snoc hbits.out HR2.out, hbr4⟩
        case measure => simp [intOf] <;> omega
    · obtain rfl : k = gn := by omega
      go_wp2_with fail
      go_ret
      rw [List.take_of_length_le (by rw [hml.out]; exact Nat.le_refl _)] at hout
      exact ⟨_, _, _, rfl, hout, hbel⟩
end Go.Proofs.Ytbdccgodamkljaa
