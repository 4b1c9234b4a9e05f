/-
  The language: the reference's widths of all lines, inputs, results, and whether lines are a program.
-/
import Derived.Test.YtdlddkgmjpmenaaGreatDoorLn4
import Derived.Deep.RegionLaw
import Derived.Deep.RegionHeld3
namespace Go.Proofs.YtdlddkgmjpmenaaGreatDoor
open Go.RowKit
set_option linter.unusedVariables false
set_option linter.unusedSimpArgs false

/-- 'append(out, x)' of one int as one step of a region that draws. -/
theorem step_append_i {ops : Array Oper} {o : Oper} {a : Act} {w : World} {K : Act → World → Prop} {Q : Exit → Act → World → Prop} {E : Prop} (hgd : o.guard = none) (s x : Operand)
    (ho : o.op = .call { callee := .builtin .append, args := #[s, x], argTypes := #[29, 29] })
    (B : Nat) (ao : Option Addr) (n cap : Nat) (xs : List Int) (u : Int) (hs : a.eval s = .slice ao n cap) (hx : a.eval x = .slice (some ⟨w.heap.size, 0, none⟩) 1 1)
    (hown : OwnI B w ao n cap xs) (hn : n < 999999990) (hB : B ≤ w.heap.size)
    (hK : ∀ ao' cap' w', OwnI B w' ao' (n + 1) cap' (xs ++ [u]) → w.grownBy w' (rowOf ao cap) → K (a.put o.dst (.slice ao' (n + 1) cap')) w') :
    if Region.wanted o (yielded ops a.tmps) = true then Oper.wp Tryz.prog o a (w.alloc (.cells #[.int .i64 u] 3)) K Q else E := by
  rw [if_pos (by simp [Region.wanted, hgd])]
  obtain ⟨i, hi1, hi2, hi3, hi4⟩ := info_parts int_info
  obtain ⟨ao', cap', w', hr, h2, h3⟩ := run_append_any (P := Tryz.prog) (w.alloc (.cells #[.int .i64 u] 3)) 29 o.type 3 i (.int .i64 0) 1 8 Tryz.underlying29 hi1 hi2 hi3 hi4 rfl (by decide) B ao n cap (xs.map (Value.int .i64)) (hown.2.2.alloc _) _ _ 1 1 [.int .i64 u] rfl (cellsAt_new w [.int .i64 u] 3) (by simp [Value.oneCell']) (by unfold maxLen; omega) (by omega) (by simp; omega)
  unfold Oper.wp execOp
  simp only [ho, resolve, invoke, builtin, Sem.run_bind, Sem.run_pure, Result.andThen_ok, List.map_toArray, List.map_cons, List.map_nil, hs, hx, hr]
  exact hK _ _ _ ⟨by simp [hown.1], by omega, by simpa using h2⟩ (grownBy_old h3)
/-- Texts of lines that are not beyond measure. -/
def okS (ls : List Ln) : Prop := ∀ x ∈ ls, x.name.size ≤ 1048576 ∧ x.op.size ≤ 1048576 ∧ x.parts.length ≤ 1048576
theorem OwnI.drewN {B : Nat} {w : World} {ao : Option Addr} {n cap : Nat} {xs : List Int} (h : OwnI B w ao n cap xs) (k : Nat) : OwnI B (w.drewN k) ao n cap xs := h
theorem okS_at {ls : List Ln} (h : okS ls) {k : Nat} {x : Ln} (hx : ls[k]? = some x) : x.name.size ≤ 1048576 ∧ x.op.size ≤ 1048576 ∧ x.parts.length ≤ 1048576 := h x (List.mem_of_getElem? hx)
set_option maxHeartbeats 4000000 in
theorem laInputs_any (w : World) (B : Nat) (ao : Option Addr) (n c : Nat) (ls : List Ln) (p : Int) (h : Lns w B ao n ls) (hB : B ≤ w.heap.size) (hn30 : n ≤ 1048576) :
    Calls Tryz.prog 66 #[.slice ao n c, .int .i64 p] w (RetI (inputsL ls p) w) := by
  have hn := h.le
  have hl := Lib.hid h.1
  go_enter Tryz.func66, Tryz.ntmps66
  go_wp2_with fail
  go_loopw [5, 10] (fun out i wr => ∃ (k : Nat) (co : Option Addr) (m cap : Nat), k ≤ n ∧ m ≤ k ∧ i = .int .i64 k ∧ out = .slice co m cap ∧ OwnI w.heap.size wr co m cap (inputsL (ls.take k) p) ∧ Below w.heap.size w wr) (fun _ i _ => n - (intOf i).toNat)
  case atStart => exact ⟨0, _, 0, 0, Nat.zero_le _, Nat.le_refl _, rfl, rfl, by simpa [inputsL] using OwnI.nil _ _ _, Below.refl _ _⟩
  case round =>
    obtain ⟨k, co, m, cap, hk, hmk, rfl, rfl, hout, hbel⟩ := hrel
    by_cases hlt : k < n
    · obtain ⟨b, o, l, pa, pc, rfl, hb, hx, hps, g0, g1, g2, g3, g4, g5, g6⟩ := (h.below hbel hB).at hlt
      have HS : Hid (inputsL (ls.take (k + 1)) p = inputsL (ls.take k) p ++ (if (l.kind == 1 && l.party == p) = true then [l.width] else [])) := by
        show _ = _
        unfold inputsL
        rw [List.take_add_one, hx, List.filter_append, List.map_append]
        congr 1
        cases hb1 : (l.kind == 1 && l.party == p)
        · simp only [Option.toList_some, List.filter_cons, hb1]; rfl
        · simp only [Option.toList_some, List.filter_cons, hb1]; rfl
      clear hx
      obtain ⟨W2, hW2⟩ : ∃ W2, W2 = wr.alloc (lineObj l pa pc) := ⟨_, rfl⟩
      have hal : Below wr.heap.size wr W2 := by rw [hW2]; exact (Below.refl _ _).alloc (Nat.le_refl _) _
      have hbx : BoxL W2 wr.heap.size l pa pc := by rw [hW2]; exact boxL_new _ _ _ _
      have HW2 := Lib.hid hW2
      clear hW2
      obtain ⟨e0, e1, e2, e3, e4, e5, e6⟩ := hbx
      have hbel2 := hbel.trans (hal.mono hbel.size)
      have hout2 := hout.below hal (Nat.le_refl _)
      unfold lineObj at HW2
      cases hk1 : (l.kind == 1)
      · have HS2 : Hid (inputsL (ls.take (k + 1)) p = inputsL (ls.take k) p) := by show _ = _; rw [HS.out, hk1]; simp
        go_wp2_with (rw [← HW2.out])
        go_roundw
        case rel => exact ⟨k + 1, co, m, cap, by omega, by omega, by go_num, rfl, by rw [HS2.out]; exact hout2, hbel2⟩
        case measure => simp [intOf] <;> omega
      cases hk2 : (l.party == p)
      · have HS2 : Hid (inputsL (ls.take (k + 1)) p = inputsL (ls.take k) p) := by show _ = _; rw [HS.out, hk1, hk2]; simp
        go_wp2_with (rw [← HW2.out])
        go_roundw
        case rel => exact ⟨k + 1, co, m, cap, by omega, by omega, by go_num, rfl, by rw [HS2.out]; exact hout2, hbel2⟩
        case measure => simp [intOf] <;> omega
      · have HS2 : Hid (inputsL (ls.take (k + 1)) p = inputsL (ls.take k) p ++ [l.width]) := by show _ = _; rw [HS.out, hk1, hk2]; rfl
        go_wp2_with (first | rw [← HW2.out] | (at_builtin; refine wpList_append_i rfl _ _ rfl w.heap.size _ _ _ _ _ rfl (by first | rfl | (simp; rfl)) hout2 (by omega) hbel2.size ?_; intro ao' cap' w4 hown4 hg4))
        have hbr4 := below_append hbel2 hout2.2.2 hg4 hbel2.size
        go_roundw
        case rel => exact ⟨k + 1, ao', m + 1, cap', by omega, by omega, by go_num, rfl, by rw [HS2.out]; exact hown4, hbr4⟩
        case measure => simp [intOf] <;> omega
    · obtain rfl : k = n := by omega
      rw [List.take_of_length_le (by rw [hl.out]; exact Nat.le_refl _)] at hout
      go_wp2_with fail
      go_ret
      exact ⟨_, _, _, rfl, hout, hbel⟩
set_option maxRecDepth 20000 in
set_option maxHeartbeats 4000000 in
theorem laWidths_any (w : World) (ao : Option Addr) (n c : Nat) (ls : List Ln) (h : Lns w w.heap.size ao n ls) (hs : okS ls) (hn30 : n ≤ 1048576) (hnc : n ≤ c) :
    Calls Tryz.prog 50 #[.slice ao n c] w (RetI (laWidths ls) w) := by
  have hn := h.le
  have hl := Lib.hid h.1
  have HSZ := Lib.hid hs
  clear hs
  go_enter Tryz.func50, Tryz.ntmps50
  go_wp2_with fail
  go_loopw [3, 8] (fun out i wr => ∃ (k : Nat) (co : Option Addr) (cap : Nat), k ≤ n ∧ i = .int .i64 k ∧ out = .slice co k cap ∧ OwnI w.heap.size wr co k cap (laWidths (ls.take k)) ∧ Hid (okZ (laWidths (ls.take k))) ∧ Below w.heap.size w wr) (fun _ i _ => n - (intOf i).toNat)
  case atStart => exact ⟨0, _, _, Nat.zero_le _, rfl, rfl, OwnI.nil _ _ _, by intro i x hx; simp [laWidths, laWidthsFrom] at hx, Below.refl _ _⟩
  case round =>
    obtain ⟨k, co, cap, hk, rfl, rfl, hout, HZ, hbel⟩ := hrel
    by_cases hlt : k < n
    · obtain ⟨b, o, l, pa, pc, rfl, hb, hx, hps, g0, g1, g2, g3, g4, g5, g6⟩ := (h.below hbel (Nat.le_refl _)).at hlt
      have HS := Lib.hid (laWidths_step hx)
      have HSL := Lib.hid (okS_at HSZ.out hx)
      clear hx
      obtain ⟨W2, hW2⟩ : ∃ W2, W2 = wr.alloc (lineObj l pa pc) := ⟨_, rfl⟩
      have hal : Below wr.heap.size wr W2 := by rw [hW2]; exact (Below.refl _ _).alloc (Nat.le_refl _) _
      have hbx : BoxL W2 wr.heap.size l pa pc := by rw [hW2]; exact boxL_new _ _ _ _
      have HW2 := Lib.hid hW2
      clear hW2
      obtain ⟨e0, e1, e2, e3, e4, e5, e6⟩ := hbx
      have hbel2 := hbel.trans (hal.mono hbel.size)
      have hout2 := hout.below hal (Nat.le_refl _)
      unfold lineObj at HW2
      have hkc : (k : Int) ≤ (c : Int) := by omega
      have hk0 : (0 : Int) ≤ (k : Int) := by omega
      have hkc2 : k ≤ c := by omega
      have HLk := Lib.hid (((h.take hk).below hbel2 (Nat.le_refl _)).up hbel2.size)
      have HPS := Lib.hid ((hps.below hal hbel.size).up hbel2.size)
      have hszW : wr.heap.size < W2.heap.size := by rw [HW2.out]; simp
      have hb7 : BoxL W2 wr.heap.size l pa pc := ⟨e0, e1, e2, e3, e4, e5, e6⟩
      have hS : ∀ W, Below W2.heap.size W2 W → W.cell? ⟨wr.heap.size, 0, none⟩ = some (.int .i64 l.kind) ∧ W.cell? ⟨wr.heap.size, 1, none⟩ = some (.string l.name) ∧ W.cell? ⟨wr.heap.size, 2, none⟩ = some (.string l.op) ∧ W.cell? ⟨wr.heap.size, 3, none⟩ = some (.slice pa l.parts.length pc) ∧ W.cell? ⟨wr.heap.size, 4, none⟩ = some (.int .i64 l.party) ∧ W.cell? ⟨wr.heap.size, 5, none⟩ = some (.int .i64 l.width) ∧ W.cell? ⟨wr.heap.size, 6, none⟩ = some (.int .i64 l.value) ∧ Below w.heap.size w W := fun W hW => by
        have hc := hb7.below hW hszW
        exact ⟨hc.1, hc.2.1, hc.2.2.1, hc.2.2.2.1, hc.2.2.2.2.1, hc.2.2.2.2.2.1, hc.2.2.2.2.2.2, hbel2.trans (hW.mono hbel2.size)⟩
      have HSS := Lib.hid hS
      clear hS
      have HOUT := Lib.hid hout2
      have hn5 : k ≤ 1048576 := by omega
      have hnr : some wr.heap.size ≠ rowOf co cap := fun e => by have := hout.rowLt _ e.symm; omega
      go_wp2_with (rw [← HW2.out])
      go_region_held3 (fun w' => w'.cell? ⟨wr.heap.size, 0, none⟩ = some (.int .i64 l.kind) ∧ w'.cell? ⟨wr.heap.size, 1, none⟩ = some (.string l.name) ∧ w'.cell? ⟨wr.heap.size, 2, none⟩ = some (.string l.op) ∧ w'.cell? ⟨wr.heap.size, 3, none⟩ = some (.slice pa l.parts.length pc) ∧ w'.cell? ⟨wr.heap.size, 4, none⟩ = some (.int .i64 l.party) ∧ w'.cell? ⟨wr.heap.size, 5, none⟩ = some (.int .i64 l.width) ∧ w'.cell? ⟨wr.heap.size, 6, none⟩ = some (.int .i64 l.value) ∧ Below w.heap.size w w') (first | exact HSS.out _ (bdrewN (Below.refl _ _) 1) | exact hSC | exact HSS.out _ hbA | exact HSS.out _ (hbA.alloc hbA.size _) | assumption)
        (first | (go_at_call 83; refine (laWidth_any _ _ _ _ _ _ _ _ _ _ _ (HLk.out.drewN 1) (HOUT.out.drewN 1).ints (HPS.out.drewN 1) HZ.out HSL.out.1 HSL.out.2.2).mono ?_; rintro e w5 ⟨rfl, hb5⟩; have hbA : Below W2.heap.size W2 w5 := (bdrewN (Below.refl W2.heap.size W2) 1).trans hb5) | (refine step_append_i rfl _ _ rfl w.heap.size _ _ _ _ _ rfl (by first | rfl | (simp; rfl)) (HOUT.out.below hbA (Nat.le_refl _)) (by omega) (Nat.le_trans hbel2.size hbA.size) ?_; intro ao' cap' w6 hown6 hg6; have hq := HSS.out w5 hbA; have hSC := And.intro (hg6.cell hq.1 hnr) (And.intro (hg6.cell hq.2.1 hnr) (And.intro (hg6.cell hq.2.2.1 hnr) (And.intro (hg6.cell hq.2.2.2.1 hnr) (And.intro (hg6.cell hq.2.2.2.2.1 hnr) (And.intro (hg6.cell hq.2.2.2.2.2.1 hnr) (And.intro (hg6.cell hq.2.2.2.2.2.2.1 hnr) (below_append (hbel2.trans (hbA.mono hbel2.size)) (HOUT.out.below hbA (Nat.le_refl _)).2.2 hg6 (Nat.le_trans hbel2.size hbA.size))))))))))
      all_goals
        go_wp2_with fail
        go_roundw
        case rel => exact ⟨k + 1, ao', cap', by omega, by go_num, rfl, by rw [HS.out]; exact hown6, by rw [HS.out]; exact okZ_snoc HZ.out (laWidth_okZ _ HZ.out l), hSC.2.2.2.2.2.2.2⟩
        case measure => simp [intOf] <;> omega
    · obtain rfl : k = n := by omega
      rw [List.take_of_length_le (by rw [hl.out]; exact Nat.le_refl _)] at hout
      go_wp2_with fail
      go_ret
      exact ⟨_, _, _, rfl, hout, hbel⟩
end Go.Proofs.YtdlddkgmjpmenaaGreatDoor
