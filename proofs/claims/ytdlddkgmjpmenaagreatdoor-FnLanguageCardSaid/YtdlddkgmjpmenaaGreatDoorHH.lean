/-
  Programs read back: the loop over the lines, by the program.
-/
import Derived.Test.YtdlddkgmjpmenaaGreatDoorQPr5
import Derived.Test.YtdlddkgmjpmenaaGreatDoorHMk
import Derived.Test.YtdlddkgmjpmenaaGreatDoorHLs
namespace Go.Proofs.YtdlddkgmjpmenaaGreatDoor
open Go.RowKit
set_option linter.unusedVariables false
set_option linter.unusedSimpArgs false

/-- The variable of bytealg that holds the greatest length. -/
def MaxB (w : World) : Prop := ∃ m, w.cell? ⟨0, 0, none⟩ = some (.int .i64 m)
theorem MaxB.on {w W : World} (h : MaxB w) (hb : Below w.heap.size w W) : MaxB W := by
  obtain ⟨m, h⟩ := h
  have hl : 0 < w.heap.size := by
    unfold World.cell? at h
    cases hh : w.heap[0]? with
    | none => simp [hh] at h
    | some o => exact (Array.getElem?_eq_some_iff.1 hh).1
  exact ⟨m, (hb.cell (p := ⟨0, 0, none⟩) hl).trans h⟩
theorem errsB_on {w W : World} (h : ErrsB w) (hb : Below w.heap.size w W) : ErrsB W := fun W' h' => h W' (hb.trans (h'.mono hb.size))
theorem splitB_small (sep : ByteArray) : ∀ (k : Nat) (s : ByteArray), ∀ x ∈ Lib.splitB sep 0 k s, x.size ≤ s.size
  | 0, s, x, hx => by rw [Lib.splitB_zero, List.mem_singleton] at hx; subst hx; exact Nat.le_refl _
  | k + 1, s, x, hx => by
    unfold Lib.splitB at hx
    split at hx
    · rw [List.mem_singleton] at hx; subst hx; exact Nat.le_refl _
    · rcases List.mem_cons.1 hx with rfl | hx
      · rw [ByteArray.size_extract]; omega
      · have := splitB_small sep k _ x hx
        rw [ByteArray.size_extract] at this
        omega
theorem splitB_cons (sep : ByteArray) (k : Nat) (s : ByteArray) : ∃ a ws, Lib.splitB sep 0 k s = a :: ws := by
  cases k with
  | zero => exact ⟨_, _, rfl⟩
  | succ k =>
    unfold Lib.splitB
    split
    · exact ⟨_, _, rfl⟩
    · exact ⟨_, _, rfl⟩
/-- What SplitN hands out. -/
theorem splitN_any (w : World) (s : ByteArray) (c : UInt8) (k : Nat) (L : List ByteArray) (hL : Lib.splitB ⟨#[c]⟩ 0 (min k (s.size + 1) - 1) s = L) (hs : s.size ≤ 1048576) (hm : MaxB w) (hk : 1 ≤ k) (hk2 : k ≤ 100) :
    Calls Tryz.prog 27 #[.string s, .string ⟨#[c]⟩, .int .i64 k] w fun e w' => ∃ cap, e = .returned (.slice (some ⟨w.heap.size, 0, none⟩) L.length cap) ∧ L.length ≤ cap ∧ L.length ≤ k ∧
      Strs w' w'.heap.size (some ⟨w.heap.size, 0, none⟩) L.length L ∧ Below w.heap.size w w' := by
  subst hL
  obtain ⟨m, hm⟩ := hm
  refine (Tryz.strings_SplitN s ⟨#[c]⟩ k m w (by omega) hm (Nat.le_refl 1) hk (by omega)).mono ?_
  rintro e w' ⟨rfl, rfl⟩
  have hl := Lib.splitB_length_le ⟨#[c]⟩ 0 (min k (s.size + 1) - 1) s
  refine ⟨_, rfl, by omega, by omega, ⟨rfl, by omega, .inr ⟨w.heap.size, 0, rfl, by simp, fun j u hu => ?_⟩⟩, (Below.refl _ _).alloc (Nat.le_refl _) _⟩
  rw [Nat.zero_add, cell_of_row _ _ j _ _ (0, 0) (heap_alloc_new w _)]
  unfold Lib.cellsOf
  have hj : j < ((Lib.splitB ⟨#[c]⟩ 0 (min k (s.size + 1) - 1) s).map Value.string).length := (List.getElem?_eq_some_iff.1 hu).1
  rw [List.getElem?_toArray, List.getElem?_append_left hj]
  exact hu
theorem lineI_small {s : ByteArray} (hs : s.size ≤ 1048576) : (lineI s).name.size ≤ 1048576 ∧ (lineI s).op.size ≤ 1048576 ∧ (lineI s).parts.length ≤ 3 :=
  lineOf_small fun v hv => Nat.le_trans (splitB_small _ _ _ v hv) hs
theorem trimB_small {s : ByteArray} : (trimB s).size ≤ s.size := by
  unfold trimB
  have h : (Lib.trimSuffix s.data.toList [10]).length ≤ s.data.toList.length := by
    unfold Lib.trimSuffix
    split
    · rw [List.length_take]; omega
    · exact Nat.le_refl _
  have e : s.data.toList.length = s.size := Array.length_toList
  show (Lib.trimSuffix s.data.toList [10]).toArray.size ≤ _
  rw [List.size_toArray]
  omega
/-- The lines of the program, so far. -/
def linesI (s : ByteArray) (L : List ByteArray) (k : Nat) : List Ln := if s.size = 0 then [] else (L.take k).map lineI
set_option maxRecDepth 20000 in
set_option maxHeartbeats 8000000 in
theorem impl_ParseProgram_any (w : World) (s : ByteArray) (hs : s.size ≤ 1048576) (htab : TabB w) (herr : ErrsB w) (hml : MaxB w) :
    Calls Tryz.prog 6 #[.string s] w (RetTB (acceptF (implP s) s) w) := by
  obtain ⟨W0, hW0⟩ : ∃ W0, W0 = w.alloc (.cells #[] 47) := ⟨_, rfl⟩
  have hb0 : Below w.heap.size w W0 := by rw [hW0]; exact (Below.refl _ _).alloc (Nat.le_refl _) _
  have hz0 : W0.heap.size = w.heap.size + 1 := by rw [hW0]; simp
  have HW0 := Lib.hid hW0
  clear hW0 hz0
  obtain ⟨tb, htb⟩ : ∃ t, t = trimB s := ⟨_, rfl⟩
  have htz : tb.size ≤ 1048576 := by rw [htb]; exact Nat.le_trans trimB_small hs
  obtain ⟨L, hL⟩ : ∃ L, Lib.splitB ⟨#[10]⟩ 0 (min 32 (tb.size + 1) - 1) tb = L := ⟨_, rfl⟩
  have hLs : ∀ x ∈ L, x.size ≤ 1048576 := fun x hx => by rw [← hL] at hx; exact Nat.le_trans (splitB_small _ _ _ x hx) htz
  have HEND : Hid (linesI s L L.length = implP s) := by
    show _ = _
    unfold linesI implP
    rw [List.take_length, ← htb, hL]
  have HOK : Hid (okS (implP s)) := by
    show okS _
    intro x hx
    unfold implP at hx
    split at hx
    · simp at hx
    · rw [← htb, hL] at hx
      obtain ⟨t, ht, rfl⟩ := List.mem_map.1 hx
      obtain ⟨a, b, c⟩ := lineI_small (hLs t ht)
      exact ⟨a, b, by omega⟩
  have HSTEP : Hid (∀ k x, L[k]? = some x → ¬ s = ⟨#[]⟩ → linesI s L (k + 1) = linesI s L k ++ [lineI x]) := fun k x hx hz => by
    have hz' : ¬ s.size = 0 := fun e => hz (ByteArray.ext (Array.size_eq_zero_iff.1 e))
    unfold linesI
    rw [if_neg hz', if_neg hz', List.take_add_one, hx, List.map_append]; rfl
  have HZ : Hid (s = ⟨#[]⟩ → ∀ k, linesI s L k = []) := fun e k => by subst e; rfl
  have H0 : Hid (linesI s L 0 = []) := by show _ = _; unfold linesI; split <;> simp
  have HLS := Lib.hid hLs
  have HTB := Lib.hid htb
  have HLX := Lib.hid hL
  have HTAB := Lib.hid htab
  have HERR := Lib.hid herr
  have HML := Lib.hid hml
  clear hLs htb hL htab herr hml
  go_enter Tryz.func6, Tryz.ntmps6
  go_wp2_with (rw [← HW0.out])
  refine (Tryz.strings_TrimSuffix s ⟨#[10]⟩ W0 (by omega)).mono ?_
  rintro e w1 ⟨rfl, rfl⟩
  rw [show (⟨(Lib.trimSuffix s.data.toList (ByteArray.mk #[10]).data.toList).toArray⟩ : ByteArray) = tb from HTB.out.symm]
  go_wp2_with fail
  refine (splitN_any w1 tb 10 32 L HLX.out htz (HML.out.on hb0) (by omega) (by omega)).mono ?_
  rintro e w2 ⟨cap, rfl, hcap, hL32, hS2, hb2⟩
  have hB2 := hb0.trans (hb2.mono hb0.size)
  have hz2 := hb2.size
  have hL1 : 0 < L.length := by
    obtain ⟨a, ws, e⟩ := splitB_cons ⟨#[10]⟩ (min 32 (tb.size + 1) - 1) tb
    rw [← HLX.out, e]; simp
  obtain ⟨b, off, hbo, hbB, hcw⟩ := strs_cells hS2 (by omega)
  simp only [Option.some.injEq, Addr.mk.injEq, and_true] at hbo
  obtain ⟨rfl, rfl⟩ := hbo
  have HCW := Lib.hid hcw
  clear hcw hS2
  go_wp2_with fail
  go_loopw [4, 14] (fun s4 s14 wr => ∃ (k m : Nat) (ao : Option Addr) (cp : Nat) (hs : List (Option Addr × Nat)), k ≤ L.length ∧ m ≤ k ∧ s4 = .slice ao m cp ∧ s14 = .int .i64 k ∧ Hid (TT w2.heap.size wr ao m cp hs (linesI s L k)) ∧ Below w2.heap.size w2 wr) (fun _ s14 _ => L.length - (intOf s14).toNat)
  case atStart => exact ⟨0, 0, _, 0, [], Nat.zero_le _, Nat.le_refl _, rfl, rfl, by show TT _ _ _ _ _ _ _; rw [H0.out]; exact TT.nil _ _ _, Below.refl _ _⟩
  case round =>
    obtain ⟨k, m, ao, cp, hs', hk, hmk, rfl, rfl, HT, hbel⟩ := hrel
    have hzr := hbel.size
    have hBr := hB2.trans (hbel.mono hB2.size)
    by_cases hlt : k < L.length
    · obtain ⟨x, hx⟩ : ∃ x, L[k]? = some x := ⟨_, List.getElem?_eq_getElem hlt⟩
      have hcl : wr.cell? ⟨w1.heap.size, k, none⟩ = some (.string x) := (hbel.cell (p := ⟨w1.heap.size, k, none⟩) hbB).trans (by have := HCW.out k x hx; rwa [Nat.zero_add] at this)
      by_cases hse : s = ⟨#[]⟩
      · subst hse
        have HX : Hid (linesI ⟨#[]⟩ L (k + 1) = linesI ⟨#[]⟩ L k) := by show _ = _; rw [HZ.out rfl, HZ.out rfl]
        clear hx
        go_wp2_with fail
        go_roundw
        case rel => exact ⟨k + 1, m, ao, cp, hs', by omega, by omega, rfl, by go_num, by show TT _ _ _ _ _ _ _; rw [HX.out]; exact HT.out, hbel⟩
        case measure => simp [intOf] <;> omega
      · have hxs := HLS.out x (List.mem_of_getElem? hx)
        have hne : s.toList.isEmpty = false := by have := ne_list hse; cases h : s.toList with
          | nil => exact absurd h this
          | cons u v => rfl
        obtain ⟨a, ws, hws⟩ := splitB_cons ⟨#[32]⟩ (min 7 (x.size + 1) - 1) x
        obtain ⟨Lx, hLx⟩ : ∃ Lx, Lx = lineOf atoiV (a :: ws) := ⟨_, rfl⟩
        have HX : Hid (linesI s L (k + 1) = linesI s L k ++ [Lx]) := by show _ = _; rw [HSTEP.out k x hx hse, hLx]; unfold lineI; rw [hws]
        have hwz : ∀ y ∈ ws, y.size ≤ 1048576 := fun y hy => Nat.le_trans (splitB_small ⟨#[32]⟩ (min 7 (x.size + 1) - 1) x y (by rw [hws]; exact List.mem_cons_of_mem _ hy)) hxs
        have HWS := Lib.hid hws
        have HWZ := Lib.hid hwz
        have HLN := Lib.hid hLx
        clear hx hse hws hwz hLx
        go_wp2_with (first
          | (go_at_call 27; refine (splitN_any wr x 32 7 (a :: ws) HWS.out hxs (HML.out.on hBr) (by omega) (by omega)).mono ?_; rintro e w3 ⟨cap3, rfl, hcap3, hl7, hS3, hb3⟩; have hz3 := hb3.size; have hB3 := hBr.trans (hb3.mono hBr.size); have HT3 := HT.out.below hb3 (Nat.le_refl _))
          | (go_at_call 29; refine (readLine_any w3 w3.heap.size _ _ cap3 a ws hS3 (Nat.le_refl _) hcap3 HWZ.out (errsB_on HERR.out hB3)).mono ?_; rw [← HLN.out]; rintro e w4 ⟨po, pc, rfl, ho4, hb4⟩; have hz4 := hb4.size; have HT4 := HT3.below hb4 (Nat.le_refl _); have hrw : ∀ (i : Nat) (y : Option Addr × Nat) (p : Nat), hs'[i]? = some y → rowOf y.1 y.2 = some p → p < w3.heap.size := (fun i y p q1 q2 => HT3.rows i y p q1 q2); have hbe4 := (hbel.trans (hb3.mono hbel.size)).trans (hb4.mono (Nat.le_trans hbel.size hb3.size)); unfold lineV)
          | (at_builtin; refine wpList_append_l rfl _ _ rfl w2.heap.size w3.heap.size _ _ _ hs' _ Lx po pc rfl (by first | rfl | (simp; rfl)) HT4 ho4 hrw (by omega) (by omega) (by omega) ?_; intro ao' cap' w9 hT9 hg9))
        have hbe := hbe4.grown hg9 (by omega) (fun q hq => (HT4.row.rowLt q hq).1)
        go_roundw
        case rel => exact ⟨k + 1, m + 1, ao', cap', _, by omega, by omega, rfl, by go_num, by show TT _ _ _ _ _ _ _; rw [HX.out]; exact hT9, hbe⟩
        case measure => simp [intOf] <;> omega
    · obtain rfl : k = L.length := by omega
      have HT : TT w2.heap.size wr ao m cp hs' (implP s) := by have := HT.out; rwa [HEND.out] at this
      have HL := Lib.hid HT.lns
      have hcp := ownC_capLe HT.row
      have HLe := HT.lns
      obtain ⟨tx, ok, htx⟩ : ∃ t b, textF (implP s) = (t, b) := ⟨_, _, rfl⟩
      have HTX := Lib.hid htx
      have hacc : (ok = true → tx = s → acceptF (implP s) s = (implP s, true)) ∧ (ok = false ∨ tx ≠ s → acceptF (implP s) s = ([], false)) := by
        unfold textF at htx
        unfold acceptF
        by_cases hg : laGoodF (implP s) = true
        · rw [if_pos hg] at htx
          simp only [Prod.mk.injEq] at htx
          obtain ⟨rfl, rfl⟩ := htx
          refine ⟨fun _ e => if_pos ⟨hg, e⟩, fun e => if_neg fun h => ?_⟩
          rcases e with e | e
          · simp at e
          · exact e h.2
        · rw [if_neg hg] at htx
          simp only [Prod.mk.injEq] at htx
          obtain ⟨rfl, rfl⟩ := htx
          exact ⟨fun e => by simp at e, fun _ => if_neg fun h => hg h.1⟩
      have HACC := Lib.hid hacc
      clear htx hacc
      go_wp2_with fail
      refine (impl_ProgramText_any _ _ _ _ _ HLe HOK.out hcp (tabB_on HTAB.out hBr)).mono ?_
      rw [HTX.out]
      rintro e w5 ⟨rfl, hb5⟩
      have hB5 := hBr.trans (hb5.mono hBr.size)
      have HT5 := Lib.hid ((HT.below hb5 (Nat.le_refl _)).up hB2.size)
      cases ok
      · have HR := Lib.hid (HACC.out.2 (.inl rfl))
        clear HACC
        go_wp2_with fail
        go_ret2
        exact RetTB.eq HR.out (TT.nil _ _ _) hB5
      · by_cases hse : tx = s
        · have HR := Lib.hid (HACC.out.1 rfl hse)
          clear HACC
          subst hse
          go_wp2_with fail
          go_ret2
          exact RetTB.eq HR.out HT5.out hB5
        · have hne : ¬ tx.toList = s.toList := fun e => hse (by
            rw [ByteArray.toList_eq, ByteArray.toList_eq] at e
            exact ByteArray.ext (Array.toList_inj.1 e))
          have HR := Lib.hid (HACC.out.2 (.inr hse))
          clear HACC
          have hne2 : (tx.toList == s.toList) = false := by simpa using hne
          go_wp2_with fail
          go_ret2
          exact RetTB.eq HR.out (TT.nil _ _ _) hB5
end Go.Proofs.YtdlddkgmjpmenaaGreatDoor
/-
  The walk of FnExactParseProgram.
-/
namespace Go.Proofs.YtdlddkgmjpmenaaGreatDoor
open Go.RowKit
set_option linter.unusedVariables false
set_option linter.unusedSimpArgs false

theorem partsSum_le3 : ∀ (ls : List Ln), (∀ x ∈ ls, x.parts.length ≤ 3) → partsSum ls ≤ 3 * ls.length
  | [], _ => by simp [partsSum]
  | l :: ls, h => by
    have h1 := partsSum_le3 ls (fun x hx => h x (List.mem_cons_of_mem _ hx))
    have h2 := h l (List.mem_cons_self ..)
    rw [partsSum_cons, List.length_cons]
    omega
theorem laParts_le3 (k : Int) : laParts k ≤ 3 := by
  unfold laParts
  split
  · omega
  split
  · omega
  split
  · omega
  · omega
/-- What a text that is read gives. -/
theorem parse_ok {s : ByteArray} (hs : s.size ≤ 1048576) {P : List Ln} {b : Bool} (h : parseF s = (P, b)) : okS P ∧ P.length + partsSum P ≤ 1048576 := by
  unfold parseF acceptF at h
  split at h
  · rename_i hg
    simp only [Prod.mk.injEq] at h
    obtain ⟨rfl, rfl⟩ := h
    have h30 := good_len hg.1
    have hok := okS_spec hs
    have h3 := partsSum_le3 (specP s) (fun x hx => by
      have h1 := (good_txt hg.1 hok x hx).1.1
      have := laParts_le3 x.kind
      omega)
    exact ⟨hok, by omega⟩
  · simp only [Prod.mk.injEq] at h
    obtain ⟨rfl, rfl⟩ := h
    exact ⟨fun x hx => by simp at hx, by simp [partsSum]⟩
set_option maxRecDepth 20000 in
set_option maxHeartbeats 4000000 in
theorem walk_FnExactParseProgram (x0 : ByteArray) (w0 : World) (hs0 : x0.size ≤ maxLen) (htab : TabB w0) (herr : ErrsB w0) (hml : MaxB w0) : Calls Tryz.prog 3 #[.string x0] w0 (RetB true w0) := by
  unfold maxLen at hs0
  by_cases hg0 : x0.size ≤ 1048576
  rotate_left
  · have hg0' : ¬ (x0.size : Int) ≤ 1048576 := by omega
    clear htab herr hml
    go_enter Tryz.func3, Tryz.ntmps3
    go_wp2_with fail
    go_ret
    exact ⟨rfl, Below.refl _ _⟩
  have hB0 : Below w0.heap.size w0 w0 := Below.refl _ _
  obtain ⟨P, b, hans⟩ : ∃ P b, parseF x0 = (P, b) := ⟨_, _, rfl⟩
  have HOK := Lib.hid (parse_ok hg0 hans)
  have HSAME := Lib.hid ((parse_same x0).trans hans)
  have HANS := Lib.hid hans
  have HTAB := Lib.hid htab
  have HERR := Lib.hid herr
  have HML := Lib.hid hml
  have hPn : P.length ≤ 1048576 := by have := HOK.out.2; omega
  clear hans htab herr hml
  go_enter Tryz.func3, Tryz.ntmps3
  go_wp2_with fail
  refine (spec_ParseProgram_any _ _ hg0).mono ?_
  rw [HANS.out]
  rintro e w1 ⟨ao1, n1, c1, rfl, hW, hc1, hb1⟩
  have hB1 := hb1
  have hZ1 := hb1.size
  obtain rfl : P.length = n1 := hW.1
  go_wp2_with fail
  refine (impl_ParseProgram_any _ _ hg0 (tabB_on HTAB.out hB1) (errsB_on HERR.out hB1) (HML.out.on hB1)).mono ?_
  rw [HSAME.out]
  rintro e w2 ⟨oa2, on2, oc2, hs2, rfl, hT, hb2⟩
  have hB2 := hB1.trans (hb2.mono hB1.size)
  have hZ2 := hb2.size
  obtain rfl : P.length = on2 := hT.len
  replace hW := hW.below hb2 (by omega)
  go_wp2_with fail
  refine (eqLineS_same _ _ _ _ _ _ _ _ _ hT.lns hW (by omega) (by omega)).mono ?_
  rintro e w3 ⟨rfl, hb3⟩
  have hB3 := hB2.trans (hb3.mono hB2.size)
  have hZ3 := hb3.size
  replace hT := hT.below hb3 (Nat.le_refl _)
  replace hW := hW.below hb3 (by omega)
  obtain ⟨Q1, hQ1⟩ : ∃ Q, Q = 1 + 6 * P.length + partsSum P := ⟨_, rfl⟩
  have HQ1 := Lib.hid hQ1
  clear hQ1
  go_wp2_with fail
  refine (markLineS_t _ _ _ _ _ _ _ hT (by omega) HOK.out.1 HOK.out.2).mono ?_
  rintro e w4 ⟨rfl, hm, hb4⟩
  rw [← HQ1.out]
  have hB4 := hB3.trans (hb4.mono (by omega))
  have hZ4 := hb4.size
  replace hW := hW.below hb4 (by omega)
  replace hT := hm
  clear hm
  go_wp2_with fail
  refine (heldLineS_any _ _ _ _ _ _ hT.lns (Nat.le_refl _) HOK.out.1 HOK.out.2).mono ?_
  rintro e w5 ⟨rfl, hb5⟩
  rw [← HQ1.out]
  have hB5 := hB4.trans (hb5.mono hB4.size)
  have hZ5 := hb5.size
  replace hT := hT.below hb5 (Nat.le_refl _)
  replace hW := hW.below hb5 (by omega)
  go_wp2_with fail
  refine (impl_ParseProgram_any _ _ hg0 (tabB_on HTAB.out hB5) (errsB_on HERR.out hB5) (HML.out.on hB5)).mono ?_
  rw [HSAME.out]
  rintro e w6 ⟨oa6, on6, oc6, hs6, rfl, hT2, hb6⟩
  have hB6 := hB5.trans (hb6.mono hB5.size)
  have hZ6 := hb6.size
  obtain rfl : P.length = on6 := hT2.len
  replace hT := hT.below hb6 (Nat.le_refl _)
  replace hW := hW.below hb6 (by omega)
  go_wp2_with fail
  refine (eqLineS_same _ _ _ _ _ _ _ _ _ hT2.lns hW (by omega) (by omega)).mono ?_
  rintro e w7 ⟨rfl, hb7⟩
  have hB7 := hB6.trans (hb7.mono hB6.size)
  have hZ7 := hb7.size
  replace hT := hT.below hb7 (Nat.le_refl _)
  go_wp2_with fail
  refine (heldLineS_any _ _ _ _ _ _ hT.lns (Nat.le_refl _) HOK.out.1 HOK.out.2).mono ?_
  rintro e w8 ⟨rfl, hb8⟩
  rw [← HQ1.out]
  have hB8 := hB7.trans (hb8.mono hB7.size)
  go_wp2_with fail
  go_ret
  exact ⟨rfl, hB8⟩
end Go.Proofs.YtdlddkgmjpmenaaGreatDoor
