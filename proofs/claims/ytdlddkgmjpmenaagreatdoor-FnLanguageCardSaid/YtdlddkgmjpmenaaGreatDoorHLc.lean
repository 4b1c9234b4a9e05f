/-
  The language: the reference's widths.
-/
import Derived.Test.YtdlddkgmjpmenaaGreatDoorQLw0
import Derived.Test.YtdlddkgmjpmenaaGreatDoorQLw1
import Derived.Test.YtdlddkgmjpmenaaGreatDoorQLw2
import Derived.Test.YtdlddkgmjpmenaaGreatDoorQLw3
import Derived.Test.YtdlddkgmjpmenaaGreatDoorQLw4
import Derived.Test.YtdlddkgmjpmenaaGreatDoorQLw5
import Derived.Test.YtdlddkgmjpmenaaGreatDoorQLw6
import Derived.Deep.RegionLaw
import Derived.Deep.RegionHeld3
namespace Go.Proofs.YtdlddkgmjpmenaaGreatDoor
open Go.RowKit
set_option linter.unusedVariables false
set_option linter.unusedSimpArgs false

theorem laWidth_any (w : World) (ao bo pa : Option Addr) (n c d pc : Nat) (ls : List Ln) (ws : List Int) (x : Ln) (h : Lns w w.heap.size ao n ls) (hw : Ints w w.heap.size bo n ws) (hp : Strs w w.heap.size pa x.parts.length x.parts) (hz : okZ ws) (hs : x.name.size ≤ 1048576) (hs2 : x.parts.length ≤ 1048576) :
    Calls Tryz.prog 83 #[.slice ao n c, .slice bo n d, .agg #[.int .i64 x.kind, .string x.name, .string x.op, .slice pa x.parts.length pc, .int .i64 x.party, .int .i64 x.width, .int .i64 x.value]] w (RetN (laWidth ls ws x) w) := by
  by_cases k1 : x.kind = 1
  · exact laWidth_any1 w ao bo pa n c d pc ls ws x h hw hp hz hs hs2 k1
  by_cases k2 : x.kind = 2
  · exact laWidth_any2 w ao bo pa n c d pc ls ws x h hw hp hz hs hs2 k2
  by_cases k3 : x.kind = 3
  · exact laWidth_any3 w ao bo pa n c d pc ls ws x h hw hp hz hs hs2 k3
  by_cases k4 : x.kind = 4
  · exact laWidth_any4 w ao bo pa n c d pc ls ws x h hw hp hz hs hs2 k4
  by_cases k5 : x.kind = 5
  · exact laWidth_any5 w ao bo pa n c d pc ls ws x h hw hp hz hs hs2 k5
  by_cases k6 : x.kind = 6
  · exact laWidth_any6 w ao bo pa n c d pc ls ws x h hw hp hz hs hs2 k6
  exact laWidth_any0 w ao bo pa n c d pc ls ws x h hw hp hz hs hs2 k1 k2 k3 k4 k5 k6
theorem partsBy_okZ {f : ByteArray → Int} {ws : List Int} (hz : okZ ws) : ∀ {ps : List ByteArray} {w : List Int}, partsBy f ws ps = some w → okZ w
  | [], w, h => by
    simp [partsBy] at h
    subst h
    intro i x hx
    simp at hx
  | p :: r, w, h => by
    unfold partsBy at h
    split at h
    · cases h
    · cases hr : partsBy f ws r with
      | none => rw [hr] at h; simp at h
      | some v =>
        rw [hr] at h
        simp at h
        subst h
        intro i x hx
        cases i with
        | zero => simp at hx; subst hx; exact okZ_at hz _
        | succ i => simp at hx; exact partsBy_okZ hz hr i x hx
theorem laWidth_okZ (ls : List Ln) {ws : List Int} (hz : okZ ws) (x : Ln) : 0 ≤ laWidth ls ws x ∧ laWidth ls ws x ≤ 10 := by
  unfold laWidth
  split
  · omega
  · next w hw =>
    have hwz := partsBy_okZ hz hw
    have h0 := okZ_at hwz 0
    have h1 := okZ_at hwz 1
    split
    · omega
    split
    · omega
    unfold kindW
    split
    · split
      · next g => simp only [Bool.and_eq_true, inB_iff] at g; omega
      · omega
    split
    · split
      · next g => simp only [Bool.and_eq_true, inB_iff] at g; omega
      · omega
    split
    · unfold laTwo
      split
      · omega
      · next g =>
        split
        · next g2 => simp [g2] at g; omega
        · split <;> omega
    split
    · exact h0
    split
    · split
      · exact h1
      · omega
    · omega
theorem laWidthsFrom_snoc (x : Ln) : ∀ (r done : List Ln) (ws : List Int), laWidthsFrom done ws (r ++ [x]) = laWidthsFrom done ws r ++ [laWidth (done ++ r) (laWidthsFrom done ws r) x]
  | [], done, ws => by simp [laWidthsFrom]
  | y :: r, done, ws => by
    rw [List.cons_append, laWidthsFrom, laWidthsFrom, laWidthsFrom_snoc x r]
    simp
theorem laWidths_step {ls : List Ln} {k : Nat} {x : Ln} (h : ls[k]? = some x) : laWidths (ls.take (k + 1)) = laWidths (ls.take k) ++ [laWidth (ls.take k) (laWidths (ls.take k)) x] := by
  unfold laWidths
  rw [List.take_add_one, h]
  exact laWidthsFrom_snoc x (ls.take k) [] []
theorem laWidths_length (ls : List Ln) : (laWidths ls).length = ls.length := by
  obtain ⟨t, ht, htl⟩ := laWidthsFrom_prefix ls [] []
  rw [show laWidths ls = laWidthsFrom [] [] ls from rfl, ht]; simpa using htl
end Go.Proofs.YtdlddkgmjpmenaaGreatDoor
/-
  The language: the reference's widths of all lines, inputs, results, and whether lines are a program.
-/
namespace Go.Proofs.YtdlddkgmjpmenaaGreatDoor
open Go.RowKit
set_option linter.unusedVariables false
set_option linter.unusedSimpArgs false

/-- 'append(out, x)' of one int as one step of a region that draws. -/
theorem step_append_i {ops : Array Oper} {o : Oper} {a : Act} {w : World} {K : Act → World → Prop} {Q : Exit → Act → World → Prop} {E : Prop} (hgd : o.guard = none) (s x : Operand)
    (ho : o.op = .call { callee := .builtin .append, args := #[s, x], argTypes := #[29, 29] })
    (B : Nat) (ao : Option Addr) (n cap : Nat) (xs : List Int) (u : Int) (hs : a.eval s = .slice ao n cap) (hx : a.eval x = .slice (some ⟨w.heap.size, 0, none⟩) 1 1)
    (hown : OwnI B w ao n cap xs) (hn : n < 999999990) (hB : B ≤ w.heap.size)
    (hK : ∀ ao' cap' w', OwnI B w' ao' (n + 1) cap' (xs ++ [u]) → w.grownBy w' (rowOf ao cap) → K (a.put o.dst (.slice ao' (n + 1) cap')) w') :
    if Region.wanted o (yielded ops a.tmps) = true then Oper.wp Tryz.prog o a (w.alloc (.cells #[.int .i64 u] 3)) K Q else E := by
  rw [if_pos (by simp [Region.wanted, hgd])]
  obtain ⟨i, hi1, hi2, hi3, hi4⟩ := info_parts int_info
  obtain ⟨ao', cap', w', hr, h2, h3⟩ := run_append_any (P := Tryz.prog) (w.alloc (.cells #[.int .i64 u] 3)) 29 o.type 3 i (.int .i64 0) 1 8 Tryz.underlying29 hi1 hi2 hi3 hi4 rfl (by decide) B ao n cap (xs.map (Value.int .i64)) (hown.2.2.alloc _) _ _ 1 1 [.int .i64 u] rfl (cellsAt_new w [.int .i64 u] 3) (by simp [Value.oneCell']) (by unfold maxLen; omega) (by omega) (by simp; omega)
  unfold Oper.wp execOp
  simp only [ho, resolve, invoke, builtin, Sem.run_bind, Sem.run_pure, Result.andThen_ok, List.map_toArray, List.map_cons, List.map_nil, hs, hx, hr]
  exact hK _ _ _ ⟨by simp [hown.1], by omega, by simpa using h2⟩ (grownBy_old h3)
/-- Texts of lines that are not beyond measure. -/
def okS (ls : List Ln) : Prop := ∀ x ∈ ls, x.name.size ≤ 1048576 ∧ x.op.size ≤ 1048576 ∧ x.parts.length ≤ 1048576
theorem OwnI.drewN {B : Nat} {w : World} {ao : Option Addr} {n cap : Nat} {xs : List Int} (h : OwnI B w ao n cap xs) (k : Nat) : OwnI B (w.drewN k) ao n cap xs := h
theorem okS_at {ls : List Ln} (h : okS ls) {k : Nat} {x : Ln} (hx : ls[k]? = some x) : x.name.size ≤ 1048576 ∧ x.op.size ≤ 1048576 ∧ x.parts.length ≤ 1048576 := h x (List.mem_of_getElem? hx)
set_option maxHeartbeats 4000000 in
theorem laInputs_any (w : World) (B : Nat) (ao : Option Addr) (n c : Nat) (ls : List Ln) (p : Int) (h : Lns w B ao n ls) (hB : B ≤ w.heap.size) (hn30 : n ≤ 1048576) :
    Calls Tryz.prog 66 #[.slice ao n c, .int .i64 p] w (RetI (inputsL ls p) w) := by
  have hn := h.le
  have hl := Lib.hid h.1
  go_enter Tryz.func66, Tryz.ntmps66
  go_wp2_with fail
  go_loopw [5, 10] (fun out i wr => ∃ (k : Nat) (co : Option Addr) (m cap : Nat), k ≤ n ∧ m ≤ k ∧ i = .int .i64 k ∧ out = .slice co m cap ∧ OwnI w.heap.size wr co m cap (inputsL (ls.take k) p) ∧ Below w.heap.size w wr) (fun _ i _ => n - (intOf i).toNat)
  case atStart => exact ⟨0, _, 0, 0, Nat.zero_le _, Nat.le_refl _, rfl, rfl, by simpa [inputsL] using OwnI.nil _ _ _, Below.refl _ _⟩
  case round =>
    obtain ⟨k, co, m, cap, hk, hmk, rfl, rfl, hout, hbel⟩ := hrel
    by_cases hlt : k < n
    · obtain ⟨b, o, l, pa, pc, rfl, hb, hx, hps, g0, g1, g2, g3, g4, g5, g6⟩ := (h.below hbel hB).at hlt
      have HS : Hid (inputsL (ls.take (k + 1)) p = inputsL (ls.take k) p ++ (if (l.kind == 1 && l.party == p) = true then [l.width] else [])) := by
        show _ = _
        unfold inputsL
        rw [List.take_add_one, hx, List.filter_append, List.map_append]
        congr 1
        cases hb1 : (l.kind == 1 && l.party == p)
        · simp only [Option.toList_some, List.filter_cons, hb1]; rfl
        · simp only [Option.toList_some, List.filter_cons, hb1]; rfl
      clear hx
      obtain ⟨W2, hW2⟩ : ∃ W2, W2 = wr.alloc (lineObj l pa pc) := ⟨_, rfl⟩
      have hal : Below wr.heap.size wr W2 := by rw [hW2]; exact (Below.refl _ _).alloc (Nat.le_refl _) _
      have hbx : BoxL W2 wr.heap.size l pa pc := by rw [hW2]; exact boxL_new _ _ _ _
      have HW2 := Lib.hid hW2
      clear hW2
      obtain ⟨e0, e1, e2, e3, e4, e5, e6⟩ := hbx
      have hbel2 := hbel.trans (hal.mono hbel.size)
      have hout2 := hout.below hal (Nat.le_refl _)
      unfold lineObj at HW2
      cases hk1 : (l.kind == 1)
      · have HS2 : Hid (inputsL (ls.take (k + 1)) p = inputsL (ls.take k) p) := by show _ = _; rw [HS.out, hk1]; simp
        go_wp2_with (rw [← HW2.out])
        go_roundw
        case rel => exact ⟨k + 1, co, m, cap, by omega, by omega, by go_num, rfl, by rw [HS2.out]; exact hout2, hbel2⟩
        case measure => simp [intOf] <;> omega
      cases hk2 : (l.party == p)
      · have HS2 : Hid (inputsL (ls.take (k + 1)) p = inputsL (ls.take k) p) := by show _ = _; rw [HS.out, hk1, hk2]; simp
        go_wp2_with (rw [← HW2.out])
        go_roundw
        case rel => exact ⟨k + 1, co, m, cap, by omega, by omega, by go_num, rfl, by rw [HS2.out]; exact hout2, hbel2⟩
        case measure => simp [intOf] <;> omega
      · have HS2 : Hid (inputsL (ls.take (k + 1)) p = inputsL (ls.take k) p ++ [l.width]) := by show _ = _; rw [HS.out, hk1, hk2]; rfl
        go_wp2_with (first | rw [← HW2.out] | (at_builtin; refine wpList_append_i rfl _ _ rfl w.heap.size _ _ _ _ _ rfl (by first | rfl | (simp; rfl)) hout2 (by omega) hbel2.size ?_; intro ao' cap' w4 hown4 hg4))
        have hbr4 := below_append hbel2 hout2.2.2 hg4 hbel2.size
        go_roundw
        case rel => exact ⟨k + 1, ao', m + 1, cap', by omega, by omega, by go_num, rfl, by rw [HS2.out]; exact hown4, hbr4⟩
        case measure => simp [intOf] <;> omega
    · obtain rfl : k = n := by omega
      rw [List.take_of_length_le (by rw [hl.out]; exact Nat.le_refl _)] at hout
      go_wp2_with fail
      go_ret
      exact ⟨_, _, _, rfl, hout, hbel⟩
set_option maxRecDepth 20000 in
set_option maxHeartbeats 4000000 in
theorem laWidths_any (w : World) (ao : Option Addr) (n c : Nat) (ls : List Ln) (h : Lns w w.heap.size ao n ls) (hs : okS ls) (hn30 : n ≤ 1048576) (hnc : n ≤ c) :
    Calls Tryz.prog 50 #[.slice ao n c] w (RetI (laWidths ls) w) := by
  have hn := h.le
  have hl := Lib.hid h.1
  have HSZ := Lib.hid hs
  clear hs
  go_enter Tryz.func50, Tryz.ntmps50
  go_wp2_with fail
  go_loopw [3, 8] (fun out i wr => ∃ (k : Nat) (co : Option Addr) (cap : Nat), k ≤ n ∧ i = .int .i64 k ∧ out = .slice co k cap ∧ OwnI w.heap.size wr co k cap (laWidths (ls.take k)) ∧ Hid (okZ (laWidths (ls.take k))) ∧ Below w.heap.size w wr) (fun _ i _ => n - (intOf i).toNat)
  case atStart => exact ⟨0, _, _, Nat.zero_le _, rfl, rfl, OwnI.nil _ _ _, by intro i x hx; simp [laWidths, laWidthsFrom] at hx, Below.refl _ _⟩
  case round =>
    obtain ⟨k, co, cap, hk, rfl, rfl, hout, HZ, hbel⟩ := hrel
    by_cases hlt : k < n
    · obtain ⟨b, o, l, pa, pc, rfl, hb, hx, hps, g0, g1, g2, g3, g4, g5, g6⟩ := (h.below hbel (Nat.le_refl _)).at hlt
      have HS := Lib.hid (laWidths_step hx)
      have HSL := Lib.hid (okS_at HSZ.out hx)
      clear hx
      obtain ⟨W2, hW2⟩ : ∃ W2, W2 = wr.alloc (lineObj l pa pc) := ⟨_, rfl⟩
      have hal : Below wr.heap.size wr W2 := by rw [hW2]; exact (Below.refl _ _).alloc (Nat.le_refl _) _
      have hbx : BoxL W2 wr.heap.size l pa pc := by rw [hW2]; exact boxL_new _ _ _ _
      have HW2 := Lib.hid hW2
      clear hW2
      obtain ⟨e0, e1, e2, e3, e4, e5, e6⟩ := hbx
      have hbel2 := hbel.trans (hal.mono hbel.size)
      have hout2 := hout.below hal (Nat.le_refl _)
      unfold lineObj at HW2
      have hkc : (k : Int) ≤ (c : Int) := by omega
      have hk0 : (0 : Int) ≤ (k : Int) := by omega
      have hkc2 : k ≤ c := by omega
      have HLk := Lib.hid (((h.take hk).below hbel2 (Nat.le_refl _)).up hbel2.size)
      have HPS := Lib.hid ((hps.below hal hbel.size).up hbel2.size)
      have hszW : wr.heap.size < W2.heap.size := by rw [HW2.out]; simp
      have hb7 : BoxL W2 wr.heap.size l pa pc := ⟨e0, e1, e2, e3, e4, e5, e6⟩
      have hS : ∀ W, Below W2.heap.size W2 W → W.cell? ⟨wr.heap.size, 0, none⟩ = some (.int .i64 l.kind) ∧ W.cell? ⟨wr.heap.size, 1, none⟩ = some (.string l.name) ∧ W.cell? ⟨wr.heap.size, 2, none⟩ = some (.string l.op) ∧ W.cell? ⟨wr.heap.size, 3, none⟩ = some (.slice pa l.parts.length pc) ∧ W.cell? ⟨wr.heap.size, 4, none⟩ = some (.int .i64 l.party) ∧ W.cell? ⟨wr.heap.size, 5, none⟩ = some (.int .i64 l.width) ∧ W.cell? ⟨wr.heap.size, 6, none⟩ = some (.int .i64 l.value) ∧ Below w.heap.size w W := fun W hW => by
        have hc := hb7.below hW hszW
        exact ⟨hc.1, hc.2.1, hc.2.2.1, hc.2.2.2.1, hc.2.2.2.2.1, hc.2.2.2.2.2.1, hc.2.2.2.2.2.2, hbel2.trans (hW.mono hbel2.size)⟩
      have HSS := Lib.hid hS
      clear hS
      have HOUT := Lib.hid hout2
      have hn5 : k ≤ 1048576 := by omega
      have hnr : some wr.heap.size ≠ rowOf co cap := fun e => by have := hout.rowLt _ e.symm; omega
      go_wp2_with (rw [← HW2.out])
      go_region_held3 (fun w' => w'.cell? ⟨wr.heap.size, 0, none⟩ = some (.int .i64 l.kind) ∧ w'.cell? ⟨wr.heap.size, 1, none⟩ = some (.string l.name) ∧ w'.cell? ⟨wr.heap.size, 2, none⟩ = some (.string l.op) ∧ w'.cell? ⟨wr.heap.size, 3, none⟩ = some (.slice pa l.parts.length pc) ∧ w'.cell? ⟨wr.heap.size, 4, none⟩ = some (.int .i64 l.party) ∧ w'.cell? ⟨wr.heap.size, 5, none⟩ = some (.int .i64 l.width) ∧ w'.cell? ⟨wr.heap.size, 6, none⟩ = some (.int .i64 l.value) ∧ Below w.heap.size w w') (first | exact HSS.out _ (bdrewN (Below.refl _ _) 1) | exact hSC | exact HSS.out _ hbA | exact HSS.out _ (hbA.alloc hbA.size _) | assumption)
        (first | (go_at_call 83; refine (laWidth_any _ _ _ _ _ _ _ _ _ _ _ (HLk.out.drewN 1) (HOUT.out.drewN 1).ints (HPS.out.drewN 1) HZ.out HSL.out.1 HSL.out.2.2).mono ?_; rintro e w5 ⟨rfl, hb5⟩; have hbA : Below W2.heap.size W2 w5 := (bdrewN (Below.refl W2.heap.size W2) 1).trans hb5) | (refine step_append_i rfl _ _ rfl w.heap.size _ _ _ _ _ rfl (by first | rfl | (simp; rfl)) (HOUT.out.below hbA (Nat.le_refl _)) (by omega) (Nat.le_trans hbel2.size hbA.size) ?_; intro ao' cap' w6 hown6 hg6; have hq := HSS.out w5 hbA; have hSC := And.intro (hg6.cell hq.1 hnr) (And.intro (hg6.cell hq.2.1 hnr) (And.intro (hg6.cell hq.2.2.1 hnr) (And.intro (hg6.cell hq.2.2.2.1 hnr) (And.intro (hg6.cell hq.2.2.2.2.1 hnr) (And.intro (hg6.cell hq.2.2.2.2.2.1 hnr) (And.intro (hg6.cell hq.2.2.2.2.2.2.1 hnr) (below_append (hbel2.trans (hbA.mono hbel2.size)) (HOUT.out.below hbA (Nat.le_refl _)).2.2 hg6 (Nat.le_trans hbel2.size hbA.size))))))))))
      all_goals
        go_wp2_with fail
        go_roundw
        case rel => exact ⟨k + 1, ao', cap', by omega, by go_num, rfl, by rw [HS.out]; exact hown6, by rw [HS.out]; exact okZ_snoc HZ.out (laWidth_okZ _ HZ.out l), hSC.2.2.2.2.2.2.2⟩
        case measure => simp [intOf] <;> omega
    · obtain rfl : k = n := by omega
      rw [List.take_of_length_le (by rw [hl.out]; exact Nat.le_refl _)] at hout
      go_wp2_with fail
      go_ret
      exact ⟨_, _, _, rfl, hout, hbel⟩
end Go.Proofs.YtdlddkgmjpmenaaGreatDoor
/-
  The language: the reference's results, and whether lines are a program.
-/
namespace Go.Proofs.YtdlddkgmjpmenaaGreatDoor
open Go.RowKit
set_option linter.unusedVariables false
set_option linter.unusedSimpArgs false

theorem outsW_step {ls : List Ln} {ws : List Int} {k : Nat} {l : Ln} {v : Int} (h : ls[k]? = some l) (hv : ws[k]? = some v) (hk : k ≤ ls.length) (hk2 : k ≤ ws.length) : outsW (ls.take (k + 1)) (ws.take (k + 1)) = outsW (ls.take k) (ws.take k) ++ (if (l.kind == 6) = true then [v] else []) := by
  unfold outsW
  rw [List.take_add_one, h, List.take_add_one, hv, List.zip_append (by simp; omega), List.filter_append, List.map_append]
  congr 1
  cases hb : (l.kind == 6)
  · simp [hb]
  · simp [hb]
set_option maxHeartbeats 4000000 in
theorem laOuts_any (w : World) (ao : Option Addr) (n c : Nat) (ls : List Ln) (h : Lns w w.heap.size ao n ls) (hs : okS ls) (hn30 : n ≤ 1048576) (hnc : n ≤ c) :
    Calls Tryz.prog 55 #[.slice ao n c] w (RetI (outsW ls (laWidths ls)) w) := by
  have hl := Lib.hid h.1
  go_enter Tryz.func55, Tryz.ntmps55
  go_wp2_with fail
  refine (laWidths_any _ _ _ _ _ h hs hn30 hnc).mono ?_
  rintro e w1 ⟨a1, n1, c1, rfl, ho1, hb1⟩
  obtain rfl : n1 = n := by have := ho1.1; rw [laWidths_length, hl.out] at this; exact this.symm
  have h1 := h.below hb1 (Nat.le_refl _)
  have hI := ho1.ints
  have hil := Lib.hid ho1.1
  obtain ⟨ws, hws⟩ : ∃ ws, ws = laWidths ls := ⟨_, rfl⟩
  have HWS := Lib.hid hws
  rw [← hws] at hI hil
  clear hws ho1 h
  go_wp2_with fail
  go_loopw [3, 9] (fun out i wr => ∃ (k : Nat) (co : Option Addr) (m cap : Nat), k ≤ n1 ∧ m ≤ k ∧ i = .int .i64 k ∧ out = .slice co m cap ∧ OwnI w1.heap.size wr co m cap (outsW (ls.take k) (ws.take k)) ∧ Below w1.heap.size w1 wr) (fun _ i _ => n1 - (intOf i).toNat)
  case atStart => exact ⟨0, _, 0, 0, Nat.zero_le _, Nat.le_refl _, rfl, rfl, by simpa [outsW] using OwnI.nil _ _ _, Below.refl _ _⟩
  case round =>
    obtain ⟨k, co, m, cap, hk, hmk, rfl, rfl, hout, hbel⟩ := hrel
    by_cases hlt : k < n1
    · obtain ⟨b, o, l, pa, pc, rfl, hb, hx, hps, g0, g1, g2, g3, g4, g5, g6⟩ := (h1.below hbel hb1.size).at hlt
      obtain ⟨b2, o2, v, rfl, hb2, hv, q2⟩ := (hI.below hbel (Nat.le_refl _)).at hlt
      have HS := Lib.hid (outsW_step hx hv (by rw [hl.out]; exact hk) (by rw [hil.out]; exact hk))
      clear hx hv
      cases hk6 : (l.kind == 6)
      · have HS2 : Hid (outsW (ls.take (k + 1)) (ws.take (k + 1)) = outsW (ls.take k) (ws.take k)) := by show _ = _; rw [HS.out, hk6]; simp
        go_wp2_with fail
        go_roundw
        case rel => exact ⟨k + 1, co, m, cap, by omega, by omega, by go_num, rfl, by rw [HS2.out]; exact hout, hbel⟩
        case measure => simp [intOf] <;> omega
      · have HS2 : Hid (outsW (ls.take (k + 1)) (ws.take (k + 1)) = outsW (ls.take k) (ws.take k) ++ [v]) := by show _ = _; rw [HS.out, hk6]; simp
        go_wp2_with (at_builtin; refine wpList_append_i rfl _ _ rfl w1.heap.size _ _ _ _ _ rfl (by first | rfl | (simp; rfl)) hout (by omega) hbel.size ?_; intro ao' cap' w4 hown4 hg4)
        have hbr4 := below_append hbel hout.2.2 hg4 hbel.size
        go_roundw
        case rel => exact ⟨k + 1, ao', m + 1, cap', by omega, by omega, by go_num, rfl, by rw [HS2.out]; exact hown4, hbr4⟩
        case measure => simp [intOf] <;> omega
    · obtain rfl : k = n1 := by omega
      rw [List.take_of_length_le (by rw [hl.out]; exact Nat.le_refl _), List.take_of_length_le (by rw [hil.out]; exact Nat.le_refl _), HWS.out] at hout
      go_wp2_with fail
      go_ret
      exact ⟨_, _, _, rfl, hout.up hb1.size, hb1.trans (hbel.mono hb1.size)⟩
end Go.Proofs.YtdlddkgmjpmenaaGreatDoor
/-
  The language: the reference's test of programs.
-/
namespace Go.Proofs.YtdlddkgmjpmenaaGreatDoor
open Go.RowKit
set_option linter.unusedVariables false
set_option linter.unusedSimpArgs false

theorem laWidthsFrom_append : ∀ (a b done : List Ln) (ws : List Int), laWidthsFrom done ws (a ++ b) = laWidthsFrom (done ++ a) (laWidthsFrom done ws a) b
  | [], b, done, ws => by simp [laWidthsFrom]
  | x :: a, b, done, ws => by
    rw [List.cons_append, laWidthsFrom, laWidthsFrom_append a b, laWidthsFrom]
    simp
theorem laWidths_get {ls : List Ln} {k : Nat} {x : Ln} (h : ls[k]? = some x) : (laWidths ls)[k]? = some (laWidth (ls.take k) (laWidths (ls.take k)) x) := by
  have hk : k < ls.length := (List.getElem?_eq_some_iff.1 h).1
  obtain ⟨t, ht, _⟩ := laWidthsFrom_prefix (ls.drop (k + 1)) (ls.take (k + 1)) (laWidths (ls.take (k + 1)))
  have e : laWidths ls = laWidths (ls.take (k + 1)) ++ t := by
    have e1 : laWidths ls = laWidthsFrom [] [] (ls.take (k + 1) ++ ls.drop (k + 1)) := by rw [List.take_append_drop]; rfl
    rw [e1, laWidthsFrom_append, List.nil_append]
    exact ht
  have hl : (laWidths (ls.take k)).length = k := by rw [laWidths_length]; simp; omega
  rw [e, laWidths_step h, List.append_assoc, List.getElem?_append_right (by omega), hl, Nat.sub_self]
  rfl
theorem input_ok {done : List Ln} {ws : List Int} {x : Ln} (h : laWidth done ws x ≠ 0) (hk : x.kind = 1) : 1 ≤ x.width ∧ x.width ≤ 10 := by
  unfold laWidth at h
  split at h
  · exact (h rfl).elim
  split at h
  · exact (h rfl).elim
  split at h
  · exact (h rfl).elim
  unfold kindW at h
  rw [if_pos hk] at h
  split at h
  · next g => simp only [Bool.and_eq_true, inB_iff] at g; exact g.2
  · exact (h rfl).elim
theorem inputs_ok {ls : List Ln} (h : okW (laWidths ls)) (p : Int) : okW (inputsL ls p) := by
  intro i y hy
  have hm := List.mem_of_getElem? hy
  unfold inputsL at hm
  rw [List.mem_map] at hm
  obtain ⟨x, hx, rfl⟩ := hm
  rw [List.mem_filter] at hx
  obtain ⟨hx, hb⟩ := hx
  obtain ⟨k, hk⟩ := List.getElem?_of_mem hx
  have h1 := h k _ (laWidths_get hk)
  simp only [Bool.and_eq_true, beq_iff_eq] at hb
  exact input_ok (fun e => by rw [e] at h1; omega) hb.1
theorem inputs_len (ls : List Ln) (p : Int) : (inputsL ls p).length ≤ ls.length := by
  unfold inputsL
  rw [List.length_map]
  exact List.length_filter_le _ _
theorem all_allIn (ws : List Int) : ws.all (fun w => inB w 1 10) = allIn 1 10 ws := rfl
set_option maxRecDepth 20000 in
set_option maxHeartbeats 4000000 in
theorem laGood_any (w : World) (ao : Option Addr) (n c : Nat) (ls : List Ln) (h : Lns w w.heap.size ao n ls) (hs : okS ls) (hnc : n ≤ c) :
    Calls Tryz.prog 48 #[.slice ao n c] w (RetB (laGoodF ls) w) := by
  have hl := h.1
  by_cases h30 : n ≤ 30
  rotate_left
  · have HF : Hid (laGoodF ls = false) := by show _ = _; unfold laGoodF; rw [show decide (ls.length ≤ 30) = false from by simp; omega, Bool.false_and]
    have h30' : ¬ (n : Int) ≤ 30 := by omega
    clear hl
    go_enter Tryz.func48, Tryz.ntmps48
    go_wp2_with fail
    go_ret
    exact ⟨ret_bool HF.out.symm, Below.refl _ _⟩
  have h30' : (n : Int) ≤ 30 := by omega
  have HL30 : Hid (decide (ls.length ≤ 30) = true) := by show _ = _; simp; omega
  have HLE := Lib.hid hl
  have hn1 : n ≤ 1048576 := by omega
  clear hl
  go_enter Tryz.func48, Tryz.ntmps48
  go_wp2_with fail
  refine (laWidths_any _ _ _ _ _ h hs hn1 hnc).mono ?_
  rintro e w1 ⟨a1, n1, c1, rfl, ho1, hb1⟩
  have hI := ho1.ints
  go_wp2_with fail
  refine (l1All_any _ _ _ _ _ _ _ _ hI).mono ?_
  rintro e w' ⟨rfl, rfl⟩
  cases hall : allIn 1 10 (laWidths ls)
  · have HF : Hid (laGoodF ls = false) := by show _ = _; unfold laGoodF; rw [all_allIn, hall, HL30.out]; rfl
    go_wp2_with fail
    go_ret
    exact ⟨ret_bool HF.out.symm, hb1⟩
  have hokw := okW_all.2 (show (laWidths ls).all (fun w => inB w 1 10) = true from hall)
  have HOK := Lib.hid hokw
  have HALL := Lib.hid hall
  clear hokw hall hI ho1
  go_wp2_with fail
  refine (laInputs_any _ w.heap.size _ _ _ _ _ (h.below hb1 (Nat.le_refl _)) hb1.size hn1).mono ?_
  rintro e w2 ⟨a2, n2, c2, rfl, ho2, hb2⟩
  have hl2 : n2 ≤ 1000 := by have h1 := ho2.1; have h2 := inputs_len ls 0; have h3 := HLE.out; omega
  have hbw2 := hb1.trans (hb2.mono hb1.size)
  go_wp2_with fail
  refine (laSum_any _ _ _ _ _ _ ho2.ints hl2 (inputs_ok HOK.out 0)).mono ?_
  rintro e w' ⟨rfl, rfl⟩
  by_cases hs0 : sumL' (inputsL ls 0) ≤ 20
  rotate_left
  · have HF : Hid (laGoodF ls = false) := by show _ = _; unfold laGoodF; rw [all_allIn, HALL.out, HL30.out, show decide (sumL' (inputsL ls 0) ≤ 20) = false from by simpa using hs0]; rfl
    go_wp2_with fail
    go_ret
    exact ⟨ret_bool HF.out.symm, hbw2⟩
  have HS0 : Hid (decide (sumL' (inputsL ls 0) ≤ 20) = true) := by show _ = _; simpa using hs0
  go_wp2_with fail
  refine (laInputs_any _ w.heap.size _ _ _ _ _ (h.below hbw2 (Nat.le_refl _)) hbw2.size hn1).mono ?_
  rintro e w3 ⟨a3, n3, c3, rfl, ho3, hb3⟩
  have hl3 : n3 ≤ 1000 := by have h1 := ho3.1; have h2 := inputs_len ls 1; have h3 := HLE.out; omega
  have hbw3 := hbw2.trans (hb3.mono hbw2.size)
  go_wp2_with fail
  refine (laSum_any _ _ _ _ _ _ ho3.ints hl3 (inputs_ok HOK.out 1)).mono ?_
  rintro e w' ⟨rfl, rfl⟩
  by_cases hs1 : sumL' (inputsL ls 1) ≤ 20
  rotate_left
  · have HF : Hid (laGoodF ls = false) := by show _ = _; unfold laGoodF; rw [all_allIn, HALL.out, HL30.out, HS0.out, show decide (sumL' (inputsL ls 1) ≤ 20) = false from by simpa using hs1]; rfl
    go_wp2_with fail
    go_ret
    exact ⟨ret_bool HF.out.symm, hbw3⟩
  have HS1 : Hid (decide (sumL' (inputsL ls 1) ≤ 20) = true) := by show _ = _; simpa using hs1
  go_wp2_with fail
  refine (laOuts_any _ _ _ _ _ ((h.below hbw3 (Nat.le_refl _)).up hbw3.size) hs hn1 hnc).mono ?_
  rintro e w4 ⟨a4, n4, c4, rfl, ho4, hb4⟩
  have HF : Hid (laGoodF ls = decide (n4 ≤ 10)) := by show _ = _; unfold laGoodF; rw [all_allIn, HALL.out, HL30.out, HS0.out, HS1.out, ho4.1]; rfl
  have hbw4 := hbw3.trans (hb4.mono hbw3.size)
  by_cases h10 : n4 ≤ 10
  · have h10' : (n4 : Int) ≤ 10 := by omega
    go_wp2_with fail
    go_ret
    exact ⟨ret_bool (by rw [HF.out]; simp [h10]), hbw4⟩
  · have h10' : ¬ (n4 : Int) ≤ 10 := by omega
    go_wp2_with fail
    go_ret
    exact ⟨ret_bool (by rw [HF.out]; simp; omega), hbw4⟩
theorem spec_IsProgram_any (w : World) (ao : Option Addr) (n c : Nat) (ls : List Ln) (h : Lns w w.heap.size ao n ls) (hs : okS ls) (hnc : n ≤ c) :
    Calls Tryz.prog 22 #[.slice ao n c] w (RetB (laGoodF ls) w) := by
  go_enter Tryz.func22, Tryz.ntmps22
  go_wp2_with fail
  refine (laGood_any _ _ _ _ _ h hs hnc).mono ?_
  rintro e w1 ⟨rfl, hb1⟩
  go_wp2_with fail
  go_ret
  exact ⟨rfl, hb1⟩
end Go.Proofs.YtdlddkgmjpmenaaGreatDoor
