/-
  Draws: a text of a program, a program and a name, a program and numbers.
-/
import Derived.Test.YtdlddkgmjpmenaaGreatDoorQLd5
import Derived.Test.YtdlddkgmjpmenaaGreatDoorHLx
import Derived.Test.YtdlddkgmjpmenaaGreatDoorHCu
import Derived.Test.YtdlddkgmjpmenaaGreatDoorHVb
import Derived.Test.YtdlddkgmjpmenaaGreatDoorHLd
import Derived.Test.YtdlddkgmjpmenaaGreatDoorHH
namespace Go.Proofs.YtdlddkgmjpmenaaGreatDoor
open Go.RowKit
set_option linter.unusedVariables false
set_option linter.unusedSimpArgs false

/-- A text is handed out. -/
def RetTx (N : Nat) (w : World) (e : Ending) (w' : World) : Prop := ∃ s : ByteArray, e = .returned (.string s) ∧ s.size ≤ N ∧ Below w.heap.size w w'
set_option maxRecDepth 20000 in
set_option maxHeartbeats 4000000 in
theorem DrawParseProgram_any (w : World) (ao : Option Addr) (n cap : Nat) (bs : List Int) (h : Bytes w w.heap.size ao n bs) :
    Calls Tryz.prog 15 #[.slice ao n cap] w (RetTx 1000 w) := by
  obtain ⟨W, hW, hc, hb, hlt⟩ := cur_new w ao n cap bs h
  have HW := Lib.hid hW
  clear hW
  go_enter Tryz.func15, Tryz.ntmps15
  go_wp2_with (rw [← HW.out])
  refine (program_txt _ _ _ hc (by omega)).mono ?_
  rintro e w2 ⟨ls, bo, k, c2, hs, rfl, hT, hk1, hk, hok, hox, hc2, hg⟩
  have hll := hT.len
  obtain ⟨t, ht⟩ : ∃ t, t = textB ls := ⟨_, rfl⟩
  have hts : t.size ≤ 480 := by have := textB_small hox hok; rw [ht]; omega
  have HT := Lib.hid ht
  clear ht
  go_wp2_with fail
  refine (laTextX_any _ _ _ _ _ hT.lns (by omega) (fun x hx => (hox x hx).1) (okD_okS hok.okD)).mono ?_
  rw [← HT.out]
  rintro e w3 ⟨rfl, hb3⟩
  have hc3 := hc2.below hb3 hc2.lt
  have hg3 := gbelow hg hb3
  go_wp2_with fail
  refine (one_any _ _ _ hc3 (by omega) 3 (by omega) (by omega)).mono ?_
  rintro e w4 ⟨q, rfl, hc4, hg4⟩
  have hg34 := gtrans hg3 hg4
  cases q
  · go_wp2_with fail
    go_ret
    exact ⟨_, rfl, by omega, below_cur hb hg34⟩
  · go_wp2_with fail
    refine (spoilt_any _ _ _ hc4 (by omega) _ _ (by omega) (by decide) (by decide)).mono ?_
    rintro e w5 ⟨s, rfl, hsz, hc5, hg5⟩
    go_wp2_with fail
    go_ret
    exact ⟨_, rfl, by omega, below_cur hb (gtrans hg34 hg5)⟩
/-- A program and a name. -/
def RetLsT (w : World) (e : Ending) (w' : World) : Prop := ∃ (ls : List Ln) (ao : Option Addr) (n cap : Nat) (s : ByteArray), e = .returned (.tuple #[.slice ao n cap, .string s]) ∧ Lns w' w'.heap.size ao n ls ∧ n ≤ cap ∧ n ≤ 40 ∧ okD ls ∧ s.size ≤ 4 ∧ Below w.heap.size w w'
def namesE : List ByteArray := [⟨#[120]⟩, ⟨#[121]⟩, ⟨#[117]⟩, ⟨#[118]⟩, ⟨#[119]⟩, ⟨#[122, 122]⟩, ⟨#[]⟩]
set_option maxRecDepth 20000 in
set_option maxHeartbeats 4000000 in
theorem DrawWidthOfName_any (w : World) (ao : Option Addr) (n cap : Nat) (bs : List Int) (h : Bytes w w.heap.size ao n bs) :
    Calls Tryz.prog 16 #[.slice ao n cap] w (RetLsT w) := by
  obtain ⟨W, hW, hc, hb, hlt⟩ := cur_new w ao n cap bs h
  have HW := Lib.hid hW
  clear hW
  go_enter Tryz.func16, Tryz.ntmps16
  go_wp2_with (rw [← HW.out])
  refine (anyProgram_any _ _ _ hc (by omega)).mono ?_
  rintro e w2 ⟨ls, bo, k, c2, hs, rfl, hT, hk, hok, hc2, hg⟩
  go_wp2_with fail
  refine (of_new _ _ _ hc2 (by omega) namesE (by decide) (by decide) 4 (by decide)).mono ?_
  rintro e w3 ⟨s, rfl, hs, hc3, hg3⟩
  have hT3 := hT.far hg3 hlt
  go_wp2_with fail
  go_ret2
  exact ⟨ls, _, _, _, _, rfl, hT3.lns, ownC_capLe hT3.row, hk, hok, hs, below_cur hb (gtrans hg hg3)⟩
/-- A program and numbers for its inputs. -/
def RetLsM (w : World) (e : Ending) (w' : World) : Prop := ∃ (ls : List Ln) (ao : Option Addr) (n cap : Nat) (xs ys : List Int) (o1 o2 : Option Addr) (n1 n2 c1 c2 : Nat), e = .returned (.tuple #[.slice ao n cap, .slice o1 n1 c1, .slice o2 n2 c2]) ∧ Lns w' w'.heap.size ao n ls ∧ n ≤ cap ∧ n ≤ 40 ∧ okD ls ∧ Ints w' w'.heap.size o1 n1 xs ∧ Ints w' w'.heap.size o2 n2 ys ∧ n1 ≤ c1 ∧ n2 ≤ c2 ∧ Below w.heap.size w w'
theorem DrawValuesC_any (w : World) (ao : Option Addr) (n cap : Nat) (bs : List Int) (h : Bytes w w.heap.size ao n bs) :
    Calls Tryz.prog 34 #[.slice ao n cap] w (RetLsM w) := by
  obtain ⟨W, hW, hc, hb, hlt⟩ := cur_new w ao n cap bs h
  have HW := Lib.hid hW
  clear hW
  go_enter Tryz.func34, Tryz.ntmps34
  go_wp2_with (rw [← HW.out])
  refine (anyProgram_any _ _ _ hc (by omega)).mono ?_
  rintro e w2 ⟨ls, bo, k, c2, hs, rfl, hT, hk, hok, hc2, hg⟩
  go_wp2_with fail
  refine (numbers_any _ _ _ W.heap.size hc2 (by omega) _ _ _ _ _ hT hlt hk).mono ?_
  rintro e w3 ⟨xs, ys, o1, o2, n1, n2, c1, c2', rfl, hx, hy, hn1, hn2, hc3, hg3⟩
  have hT3 := hT.far hg3 hlt
  go_wp2_with fail
  go_ret3
  exact ⟨ls, _, _, _, xs, ys, _, _, _, _, _, _, rfl, hT3.lns, ownC_capLe hT3.row, hk, hok, hx.ints, hy.ints, ownI_capLe hx, ownI_capLe hy, below_cur hb (gtrans hg hg3)⟩
theorem DrawRunProgram_any (w : World) (ao : Option Addr) (n cap : Nat) (bs : List Int) (h : Bytes w w.heap.size ao n bs) :
    Calls Tryz.prog 10 #[.slice ao n cap] w (RetLsM w) := by
  go_enter Tryz.func10, Tryz.ntmps10
  go_wp2_with fail
  refine (DrawValuesC_any _ _ _ _ _ h).mono ?_
  rintro e w2 ⟨ls, bo, k, c2, xs, ys, o1, o2, m1, m2, d1, d2, rfl, hl, hlc, hln, hok, hx, hy, hm1, hm2, hb⟩
  go_wp2_with fail
  go_ret3
  exact ⟨ls, _, _, _, xs, ys, _, _, _, _, _, _, rfl, hl, hlc, hln, hok, hx, hy, hm1, hm2, hb⟩
end Go.Proofs.YtdlddkgmjpmenaaGreatDoor
/-
  The walk of FnLanguage (printed by XLawH2.py).
-/
namespace Go.Proofs.YtdlddkgmjpmenaaGreatDoor
open Go.RowKit
set_option linter.unusedVariables false
set_option linter.unusedSimpArgs false

theorem text_back {s : ByteArray} {P : List Ln} (h : parseF s = (P, true)) : textF P = (s, true) := by
  obtain ⟨h1, h2⟩ := parseF_good h
  unfold textF
  rw [if_pos h1, h2]
theorem lt_of_block_cell {w : World} {b j : Nat} {v : Value} (h : w.cell? ⟨b, j, none⟩ = some v) : b < w.heap.size := by
  unfold World.cell? at h
  cases hh : w.heap[b]? with
  | none => simp [hh] at h
  | some o => exact (Array.getElem?_eq_some_iff.1 hh).1
theorem pair_of {α : Type} (r : α × Bool) {q : Bool} (h : r.2 = q) : r = (r.1, q) := by subst h; rfl
/-- A number that fits into its width is below the shifted 1. -/
theorem fit_shift {v wd : Int} (h : fits v wd) (h1 : 1 ≤ wd) (h2 : wd ≤ 10) : ∃ (n : Nat) (p : Int), wd = n ∧ n ≤ 10 ∧ wrap64 (2 ^ n) = p ∧ 0 ≤ v ∧ v < p ∧ p ≤ 1024 := by
  obtain ⟨n, rfl⟩ := Int.eq_ofNat_of_zero_le (show 0 ≤ wd by omega)
  have hn : n ≤ 10 := by omega
  refine ⟨n, 2 ^ n, rfl, hn, wrap_pow10 n hn, h.1, ?_, pow_le10 n hn⟩
  have := h.2
  rw [Int.toNat_natCast] at this
  omega
set_option maxRecDepth 100000 in
set_option maxHeartbeats 20000000 in
theorem walk_FnLanguage (a0 : Option Addr) (n0 c0 : Nat) (z0 : List Int) (a1 : Option Addr) (n1 c1 : Nat) (z1 : List Int) (w0 : World) (hA0 : BytesArg w0 a0 n0 z0) (hA1 : BytesArg w0 a1 n1 z1) (htab : TabB w0) (herr : ErrsB w0) (hml : MaxB w0) : Calls Tryz.prog 4 #[.slice a0 n0 c0, .slice a1 n1 c1] w0 (RetB true w0) := by
  by_cases hbig : (1048576 : Int) < wrap64 ((n0 : Int) + (n1 : Int))
  · clear htab herr hml
    go_enter Tryz.func4, Tryz.ntmps4
    go_wp2_with fail
    go_ret
    exact ⟨rfl, Below.refl _ _⟩
  have h0 := hA0.bytesAll
  have h1 := hA1.bytesAll
  have HTAB := Lib.hid htab
  have HERR := Lib.hid herr
  have HML := Lib.hid hml
  clear hA0 hA1 htab herr hml
  have hB : Below w0.heap.size w0 w0 := Below.refl _ _
  go_enter Tryz.func4, Tryz.ntmps4
  go_wp2_with fail
  refine (DrawRunProgram_any _ _ _ _ _ h0).mono ?_
  rintro e w1 ⟨ls, bl, nl, cl, xs, ys, o1, o2, m1, m2, d1, d2, rfl, hl, hlc, hln, hok, hx, hy, hm1, hm2, hb1⟩
  replace hB := hB.trans (hb1.mono hB.size)
  replace h0 := (h0.below hb1 (Nat.le_refl _)).up hb1.size
  replace h1 := (h1.below hb1 (Nat.le_refl _)).up hb1.size
  clear hb1
  clear h0
  have HOKS := Lib.hid (okD_okS hok)
  have hll := hl.1
  obtain ⟨q, hq⟩ : ∃ q, askedB ls xs ys = q := ⟨_, rfl⟩
  obtain ⟨R, hR⟩ : ∃ R, runPF ls xs ys = (R, q) := ⟨_, pair_of _ (asked_run.trans hq)⟩
  obtain ⟨V, hV⟩ : ∃ V, valF ls xs ys = (V, q) := ⟨_, pair_of _ (asked_val.trans hq)⟩
  obtain ⟨g, hg⟩ : ∃ g, laGoodF ls = g := ⟨_, rfl⟩
  have HQ := Lib.hid hq
  have HR := Lib.hid hR
  have HV := Lib.hid hV
  have HG := Lib.hid hg
  clear hok hq hR hV hg
  go_wp2_with fail
  refine (impl_RunProgram_any _ _ _ _ _ _ _ _ _ _ _ _ _ hl HOKS.out hlc hx hy).mono ?_
  rw [HR.out]
  rintro e w2 ⟨bor, nor, cor, rfl, or, hb2⟩
  replace hB := hB.trans (hb2.mono hB.size)
  replace h1 := (h1.below hb2 (Nat.le_refl _)).up hb2.size
  replace hl := (hl.below hb2 (Nat.le_refl _)).up hb2.size
  replace hx := (hx.below hb2 (Nat.le_refl _)).up hb2.size
  replace hy := (hy.below hb2 (Nat.le_refl _)).up hb2.size
  clear hb2
  have hr := or.ints
  clear or
  go_wp2_with fail
  refine (spec_RunProgram_any _ _ _ _ _ _ _ _ _ _ _ _ _ hl HOKS.out (by omega) hlc hx hy hm1 hm2).mono ?_
  rw [HR.out]
  rintro e w3 ⟨bok, nok, cok, rfl, ok, hb3⟩
  replace hB := hB.trans (hb3.mono hB.size)
  replace h1 := (h1.below hb3 (Nat.le_refl _)).up hb3.size
  replace hl := (hl.below hb3 (Nat.le_refl _)).up hb3.size
  replace hx := (hx.below hb3 (Nat.le_refl _)).up hb3.size
  replace hy := (hy.below hb3 (Nat.le_refl _)).up hb3.size
  replace hr := (hr.below hb3 (Nat.le_refl _)).up hb3.size
  clear hb3
  have hk := ok.ints
  clear ok
  have erk : nor = nok := hr.1.symm.trans hk.1
  subst erk
  go_wp2_with fail
  refine (impl_ValuesIn_any _ _ _ _ _ _ _ _ _ _ _ _ _ hl HOKS.out hlc hx hy).mono ?_
  rw [HV.out]
  rintro e w4 ⟨bov, nov, cov, rfl, ov, hb4⟩
  replace hB := hB.trans (hb4.mono hB.size)
  replace h1 := (h1.below hb4 (Nat.le_refl _)).up hb4.size
  replace hl := (hl.below hb4 (Nat.le_refl _)).up hb4.size
  replace hx := (hx.below hb4 (Nat.le_refl _)).up hb4.size
  replace hy := (hy.below hb4 (Nat.le_refl _)).up hb4.size
  replace hr := (hr.below hb4 (Nat.le_refl _)).up hb4.size
  replace hk := (hk.below hb4 (Nat.le_refl _)).up hb4.size
  clear hb4
  have hv := ov.ints
  clear ov
  go_wp2_with fail
  refine (spec_ValuesIn_any _ _ _ _ _ _ _ _ _ _ _ _ _ hl HOKS.out (by omega) hlc hx hy hm1 hm2).mono ?_
  rw [HV.out]
  rintro e w5 ⟨bou, nou, cou, rfl, ou, hb5⟩
  replace hB := hB.trans (hb5.mono hB.size)
  replace h1 := (h1.below hb5 (Nat.le_refl _)).up hb5.size
  replace hl := (hl.below hb5 (Nat.le_refl _)).up hb5.size
  replace hx := (hx.below hb5 (Nat.le_refl _)).up hb5.size
  replace hy := (hy.below hb5 (Nat.le_refl _)).up hb5.size
  replace hr := (hr.below hb5 (Nat.le_refl _)).up hb5.size
  replace hk := (hk.below hb5 (Nat.le_refl _)).up hb5.size
  replace hv := (hv.below hb5 (Nat.le_refl _)).up hb5.size
  clear hb5
  have hu := ou.ints
  clear ou
  have evu : nov = nou := hv.1.symm.trans hu.1
  subst evu
  clear hx hy
  go_wp2_with fail
  refine (DrawParseProgram_any _ _ _ _ _ h1).mono ?_
  rintro e w6 ⟨t, rfl, hts, hb6⟩
  replace hB := hB.trans (hb6.mono hB.size)
  replace h1 := (h1.below hb6 (Nat.le_refl _)).up hb6.size
  replace hl := (hl.below hb6 (Nat.le_refl _)).up hb6.size
  replace hr := (hr.below hb6 (Nat.le_refl _)).up hb6.size
  replace hk := (hk.below hb6 (Nat.le_refl _)).up hb6.size
  replace hv := (hv.below hb6 (Nat.le_refl _)).up hb6.size
  replace hu := (hu.below hb6 (Nat.le_refl _)).up hb6.size
  clear hb6
  have htz : t.size ≤ 1048576 := by omega
  obtain ⟨P, three, hP⟩ : ∃ P b, parseF t = (P, b) := ⟨_, _, rfl⟩
  have HOKP := Lib.hid (parse_ok htz hP)
  have HSAME := Lib.hid ((parse_same t).trans hP)
  have HP := Lib.hid hP
  clear hP
  go_wp2_with fail
  refine (impl_ParseProgram_any _ _ htz (tabB_on HTAB.out hB) (errsB_on HERR.out hB) (HML.out.on hB)).mono ?_
  rw [HSAME.out]
  rintro e w7 ⟨bom, nom, com, hsm, rfl, om, hb7⟩
  replace hB := hB.trans (hb7.mono hB.size)
  replace h1 := (h1.below hb7 (Nat.le_refl _)).up hb7.size
  replace hl := (hl.below hb7 (Nat.le_refl _)).up hb7.size
  replace hr := (hr.below hb7 (Nat.le_refl _)).up hb7.size
  replace hk := (hk.below hb7 (Nat.le_refl _)).up hb7.size
  replace hv := (hv.below hb7 (Nat.le_refl _)).up hb7.size
  replace hu := (hu.below hb7 (Nat.le_refl _)).up hb7.size
  clear hb7
  have hm := om.lns
  have qm := ownC_capLe om.row
  clear om
  go_wp2_with fail
  refine (spec_ParseProgram_any _ _ htz).mono ?_
  rw [HP.out]
  rintro e w8 ⟨bop, nop, cop, rfl, hp, qp, hb8⟩
  replace hB := hB.trans (hb8.mono hB.size)
  replace h1 := (h1.below hb8 (Nat.le_refl _)).up hb8.size
  replace hl := (hl.below hb8 (Nat.le_refl _)).up hb8.size
  replace hr := (hr.below hb8 (Nat.le_refl _)).up hb8.size
  replace hk := (hk.below hb8 (Nat.le_refl _)).up hb8.size
  replace hv := (hv.below hb8 (Nat.le_refl _)).up hb8.size
  replace hu := (hu.below hb8 (Nat.le_refl _)).up hb8.size
  replace hm := (hm.below hb8 (Nat.le_refl _)).up hb8.size
  clear hb8
  have emp : nom = nop := hm.1.symm.trans hp.1
  subst emp
  go_wp2_with fail
  refine (DrawWidthOfName_any _ _ _ _ _ h1).mono ?_
  rintro e w9 ⟨ps, bq, nq, cq, name, rfl, hn, hnc, hnn, hokn, hnz, hb9⟩
  replace hB := hB.trans (hb9.mono hB.size)
  replace h1 := (h1.below hb9 (Nat.le_refl _)).up hb9.size
  replace hl := (hl.below hb9 (Nat.le_refl _)).up hb9.size
  replace hr := (hr.below hb9 (Nat.le_refl _)).up hb9.size
  replace hk := (hk.below hb9 (Nat.le_refl _)).up hb9.size
  replace hv := (hv.below hb9 (Nat.le_refl _)).up hb9.size
  replace hu := (hu.below hb9 (Nat.le_refl _)).up hb9.size
  replace hm := (hm.below hb9 (Nat.le_refl _)).up hb9.size
  replace hp := (hp.below hb9 (Nat.le_refl _)).up hb9.size
  clear hb9
  clear h1
  have HOKN := Lib.hid (okD_okS hokn)
  clear hokn
  obtain ⟨wd, five, hW⟩ : ∃ r o, wonF ps name = (r, o) := ⟨_, _, rfl⟩
  have HW := Lib.hid hW
  clear hW
  go_wp2_with fail
  refine (impl_WidthOfName_any _ _ _ _ _ _ hn HOKN.out hnc).mono ?_
  rw [HW.out]
  rintro e w10 ⟨rfl, hb10⟩
  replace hB := hB.trans (hb10.mono hB.size)
  replace hl := (hl.below hb10 (Nat.le_refl _)).up hb10.size
  replace hr := (hr.below hb10 (Nat.le_refl _)).up hb10.size
  replace hk := (hk.below hb10 (Nat.le_refl _)).up hb10.size
  replace hv := (hv.below hb10 (Nat.le_refl _)).up hb10.size
  replace hu := (hu.below hb10 (Nat.le_refl _)).up hb10.size
  replace hm := (hm.below hb10 (Nat.le_refl _)).up hb10.size
  replace hp := (hp.below hb10 (Nat.le_refl _)).up hb10.size
  replace hn := (hn.below hb10 (Nat.le_refl _)).up hb10.size
  clear hb10
  go_wp2_with fail
  refine (spec_WidthOfName_any _ _ _ _ _ _ hn HOKN.out (by omega) hnc).mono ?_
  rw [HW.out]
  rintro e w11 ⟨rfl, hb11⟩
  replace hB := hB.trans (hb11.mono hB.size)
  replace hl := (hl.below hb11 (Nat.le_refl _)).up hb11.size
  replace hr := (hr.below hb11 (Nat.le_refl _)).up hb11.size
  replace hk := (hk.below hb11 (Nat.le_refl _)).up hb11.size
  replace hv := (hv.below hb11 (Nat.le_refl _)).up hb11.size
  replace hu := (hu.below hb11 (Nat.le_refl _)).up hb11.size
  replace hm := (hm.below hb11 (Nat.le_refl _)).up hb11.size
  replace hp := (hp.below hb11 (Nat.le_refl _)).up hb11.size
  replace hn := (hn.below hb11 (Nat.le_refl _)).up hb11.size
  clear hb11
  clear hn
  go_wp2_with fail
  refine (qInts_same _ _ _ _ _ _ _ _ _ hr hk (Nat.le_refl _) (Nat.le_refl _)).mono ?_
  rintro e w12 ⟨rfl, hb12⟩
  replace hB := hB.trans (hb12.mono hB.size)
  replace hl := (hl.below hb12 (Nat.le_refl _)).up hb12.size
  replace hr := (hr.below hb12 (Nat.le_refl _)).up hb12.size
  replace hk := (hk.below hb12 (Nat.le_refl _)).up hb12.size
  replace hv := (hv.below hb12 (Nat.le_refl _)).up hb12.size
  replace hu := (hu.below hb12 (Nat.le_refl _)).up hb12.size
  replace hm := (hm.below hb12 (Nat.le_refl _)).up hb12.size
  replace hp := (hp.below hb12 (Nat.le_refl _)).up hb12.size
  clear hb12
  go_wp2_with fail
  refine (qInts_same _ _ _ _ _ _ _ _ _ hv hu (Nat.le_refl _) (Nat.le_refl _)).mono ?_
  rintro e w13 ⟨rfl, hb13⟩
  replace hB := hB.trans (hb13.mono hB.size)
  replace hl := (hl.below hb13 (Nat.le_refl _)).up hb13.size
  replace hr := (hr.below hb13 (Nat.le_refl _)).up hb13.size
  replace hk := (hk.below hb13 (Nat.le_refl _)).up hb13.size
  replace hv := (hv.below hb13 (Nat.le_refl _)).up hb13.size
  replace hu := (hu.below hb13 (Nat.le_refl _)).up hb13.size
  replace hm := (hm.below hb13 (Nat.le_refl _)).up hb13.size
  replace hp := (hp.below hb13 (Nat.le_refl _)).up hb13.size
  clear hb13
  go_wp2_with fail
  refine (qLines_same _ _ _ _ _ _ _ _ _ hm hp (Nat.le_refl _) (Nat.le_refl _)).mono ?_
  rintro e w14 ⟨rfl, hb14⟩
  replace hB := hB.trans (hb14.mono hB.size)
  replace hl := (hl.below hb14 (Nat.le_refl _)).up hb14.size
  replace hr := (hr.below hb14 (Nat.le_refl _)).up hb14.size
  replace hk := (hk.below hb14 (Nat.le_refl _)).up hb14.size
  replace hv := (hv.below hb14 (Nat.le_refl _)).up hb14.size
  replace hu := (hu.below hb14 (Nat.le_refl _)).up hb14.size
  replace hm := (hm.below hb14 (Nat.le_refl _)).up hb14.size
  replace hp := (hp.below hb14 (Nat.le_refl _)).up hb14.size
  clear hb14
  go_wp2_with fail
  refine (impl_IsProgram_any _ _ _ _ _ hl HOKS.out hlc).mono ?_
  rw [HG.out]
  rintro e w15 ⟨rfl, hb15⟩
  replace hB := hB.trans (hb15.mono hB.size)
  replace hl := (hl.below hb15 (Nat.le_refl _)).up hb15.size
  replace hr := (hr.below hb15 (Nat.le_refl _)).up hb15.size
  replace hk := (hk.below hb15 (Nat.le_refl _)).up hb15.size
  replace hv := (hv.below hb15 (Nat.le_refl _)).up hb15.size
  replace hu := (hu.below hb15 (Nat.le_refl _)).up hb15.size
  replace hm := (hm.below hb15 (Nat.le_refl _)).up hb15.size
  replace hp := (hp.below hb15 (Nat.le_refl _)).up hb15.size
  clear hb15
  go_wp2_with fail
  refine (spec_IsProgram_any _ _ _ _ _ hl HOKS.out hlc).mono ?_
  rw [HG.out]
  rintro e w16 ⟨rfl, hb16⟩
  replace hB := hB.trans (hb16.mono hB.size)
  replace hl := (hl.below hb16 (Nat.le_refl _)).up hb16.size
  replace hr := (hr.below hb16 (Nat.le_refl _)).up hb16.size
  replace hk := (hk.below hb16 (Nat.le_refl _)).up hb16.size
  replace hv := (hv.below hb16 (Nat.le_refl _)).up hb16.size
  replace hu := (hu.below hb16 (Nat.le_refl _)).up hb16.size
  replace hm := (hm.below hb16 (Nat.le_refl _)).up hb16.size
  replace hp := (hp.below hb16 (Nat.le_refl _)).up hb16.size
  clear hb16
  clear hr hv hp HOKN HW HSAME
  obtain ⟨wz, rfl⟩ : ∃ wz : World, wz = w16 := ⟨_, rfl⟩
  go_upto_if 163 with (fail)
  go_cut [] (fun wx => Below wz.heap.size wz wx)
  case first =>
    cases three
    · go_wp2_with fail
      go_meet
      exact Below.refl _ _
    · have HT := Lib.hid (text_back HP.out)
      go_wp2_with fail
      refine (impl_ProgramText_any _ _ _ _ _ hm HOKP.out.1 qm (tabB_on HTAB.out hB)).mono ?_
      rw [HT.out]
      rintro e wy ⟨rfl, hby⟩
      go_wp2_with fail
      go_meet
      exact hby
  case rest =>
    have hbz := hcut
    replace hB := hB.trans (hbz.mono hB.size)
    replace hl := (hl.below hbz (Nat.le_refl _)).up hbz.size
    replace hk := (hk.below hbz (Nat.le_refl _)).up hbz.size
    replace hu := (hu.below hbz (Nat.le_refl _)).up hbz.size
    replace hm := (hm.below hbz (Nat.le_refl _)).up hbz.size
    clear hcut hbz hm HOKP HP HTAB HERR HML
    cases q
    · go_wp2_with fail
      go_ret
      exact ⟨rfl, hB⟩
    obtain ⟨K, hK⟩ : ∃ K, K = outsW ls (laWidths ls) := ⟨_, rfl⟩
    have hgood := (asked_good HQ.out).1
    have HO : Hid (outWF ls = (K, true)) := by show _ = _; unfold outWF; rw [if_pos hgood, hK]
    have hRe : R = pickL ls (valsL ls xs ys) ls.length := by have := HR.out; unfold runPF at this; rw [if_pos HQ.out] at this; exact (Prod.mk.inj this).1.symm
    have hVe : V = valsL ls xs ys := by have := HV.out; unfold valF at this; rw [if_pos HQ.out] at this; exact (Prod.mk.inj this).1.symm
    have hKR : K.length = R.length := by rw [hK, hRe]; exact (run_fit HQ.out).1.symm
    have HFIT : Hid (∀ (i : Nat) (v wd : Int), R[i]? = some v → K[i]? = some wd → fits v wd ∧ 1 ≤ wd ∧ wd ≤ 10) := by show ∀ (i : Nat) (v wd : Int), _; rw [hRe, hK]; exact (run_fit HQ.out).2
    have hVl : V.length = ls.length := by rw [hVe]; exact valsL_length HQ.out
    have HVF : Hid (∀ (i : Nat) (v wd : Int), V[i]? = some v → (laWidths ls)[i]? = some wd → fits v wd ∧ 1 ≤ wd ∧ wd ≤ 10) := by show ∀ (i : Nat) (v wd : Int), _; rw [hVe]; exact fun i v wd a b => vals_fit HQ.out a b
    have HGOOD := Lib.hid hgood
    clear hK hgood hRe hVe HQ HR HV HG
    go_wp2_with fail
    refine (impl_OutWidths_any _ _ _ _ _ hl HOKS.out hlc).mono ?_
    rw [HO.out]
    rintro e w51 ⟨boo, noo, coo, rfl, oo, hb51⟩
    replace hB := hB.trans (hb51.mono hB.size)
    replace hl := (hl.below hb51 (Nat.le_refl _)).up hb51.size
    replace hk := (hk.below hb51 (Nat.le_refl _)).up hb51.size
    replace hu := (hu.below hb51 (Nat.le_refl _)).up hb51.size
    clear hb51
    have ho := oo.ints
    clear oo
    go_wp2_with fail
    refine (spec_OutWidths_any _ _ _ _ _ hl HOKS.out (by omega) hlc).mono ?_
    rw [HO.out]
    rintro e w52 ⟨bow, now, cow, rfl, ow, hb52⟩
    replace hB := hB.trans (hb52.mono hB.size)
    replace hl := (hl.below hb52 (Nat.le_refl _)).up hb52.size
    replace hk := (hk.below hb52 (Nat.le_refl _)).up hb52.size
    replace hu := (hu.below hb52 (Nat.le_refl _)).up hb52.size
    replace ho := (ho.below hb52 (Nat.le_refl _)).up hb52.size
    clear hb52
    have hw := ow.ints
    clear ow
    have eow : now = noo := hw.1.symm.trans ho.1
    subst eow
    have eK : now = nor := hw.1.symm.trans (hKR.trans hk.1)
    subst eK
    have eV : nov = nl := hu.1.symm.trans (hVl.trans hll)
    subst eV
    go_wp2_with fail
    refine (qInts_same _ _ _ _ _ _ _ _ _ ho hw (Nat.le_refl _) (Nat.le_refl _)).mono ?_
    rintro e w53 ⟨rfl, hb53⟩
    replace hB := hB.trans (hb53.mono hB.size)
    replace hl := (hl.below hb53 (Nat.le_refl _)).up hb53.size
    replace hk := (hk.below hb53 (Nat.le_refl _)).up hb53.size
    replace hu := (hu.below hb53 (Nat.le_refl _)).up hb53.size
    replace ho := (ho.below hb53 (Nat.le_refl _)).up hb53.size
    replace hw := (hw.below hb53 (Nat.le_refl _)).up hb53.size
    clear hb53
    clear ho HO
    have hnow := hw.le
    go_wp2_with fail
    obtain ⟨wq, rfl⟩ : ∃ wq : World, wq = w53 := ⟨_, rfl⟩
    go_loopw [216] (fun s wx => ∃ j : Nat, j ≤ now ∧ s = .int .i64 j ∧ Below wq.heap.size wq wx) (fun s _ => now - (intOf s).toNat)
    case atStart => exact ⟨0, by omega, rfl, Below.refl _ _⟩
    case round =>
      obtain ⟨j, hj, rfl, hbj⟩ := hrel
      by_cases hlt : j < now
      · obtain ⟨b1, f1, v, rfl, hb1, hv, hcv⟩ := (hk.below hbj (Nat.le_refl _)).at hlt
        obtain ⟨b2, f2, wd, rfl, hb2, hwd, hcw⟩ := (hw.below hbj (Nat.le_refl _)).at hlt
        obtain ⟨x1, x2, x3⟩ := HFIT.out j v wd hv hwd
        obtain ⟨n, p, rfl, hn, hp, hv0, hvp, hp1⟩ := fit_shift x1 x2 x3
        have HP := Lib.hid hp
        have hv0' : ¬ v < 0 := by omega
        have hvp' : ¬ p ≤ v := by omega
        clear x1 x2 x3 hp hv hwd
        go_wp2_with (rw [HP.out])
        go_roundw
        case rel => exact ⟨j + 1, by omega, by go_num, hbj⟩
        case measure => simp [intOf] <;> omega
      · skip
        replace hB := hB.trans (hbj.mono hB.size)
        replace hl := (hl.below hbj (Nat.le_refl _)).up hbj.size
        replace hu := (hu.below hbj (Nat.le_refl _)).up hbj.size
        clear hbj hk hw HFIT
        go_wp2_with fail
        obtain ⟨wq2, rfl⟩ : ∃ wq2 : World, wq2 = wr := ⟨_, rfl⟩
        go_loopw [236] (fun s wx => ∃ j : Nat, j ≤ nov ∧ s = .int .i64 j ∧ Below wq2.heap.size wq2 wx) (fun s _ => nov - (intOf s).toNat)
        case atStart => exact ⟨0, by omega, rfl, Below.refl _ _⟩
        case round =>
          obtain ⟨j, hj, rfl, hbj⟩ := hrel
          by_cases hlt : j < nov
          · have hlr := (hl.below hbj (Nat.le_refl _)).up hbj.size
            obtain ⟨b2, f2, v, rfl, hb2, hv, hcv⟩ := ((hu.below hbj (Nat.le_refl _)).up hbj.size).at hlt
            obtain ⟨wd, hwd⟩ : ∃ wd, (laWidths ls)[j]? = some wd := ⟨_, List.getElem?_eq_getElem (by rw [laWidths_length]; omega)⟩
            obtain ⟨x1, x2, x3⟩ := HVF.out j v wd hv hwd
            obtain ⟨n, p, rfl, hn, hp, hv0, hvp, hp1⟩ := fit_shift x1 x2 x3
            have HP := Lib.hid hp
            have hvp' : ¬ p ≤ v := by omega
            have hlq := hlr
            obtain ⟨b1, f1, x, pa, pc, rfl, hb1, hx, hps, g0, g1, g2, g3, g4, g5, g6⟩ := hlr.at hlt
            obtain ⟨W1, hW1⟩ : ∃ W1, W1 = wr.alloc (lineObj x pa pc) := ⟨_, rfl⟩
            have hbw : Below wr.heap.size wr W1 := by rw [hW1]; exact (Below.refl _ _).alloc (Nat.le_refl _) _
            have hbx : BoxL W1 wr.heap.size x pa pc := by rw [hW1]; exact boxL_new _ _ _ _
            have hl1 := (hlq.below hbw (Nat.le_refl _)).up hbw.size
            have hBj := hbj.trans (hbw.mono hbj.size)
            have HW1 := Lib.hid hW1
            by_cases h6 : x.kind = 6
            · obtain ⟨K, nm, op, ps, py, wx, vl⟩ := x
              unfold lineObj at HW1
              dsimp only at h6 g0 g1 g2 g3 g4 g5 g6 HW1
              subst h6
              obtain ⟨c0, c1, c2, c3, c4, c5, c6⟩ := hbx
              dsimp only at c0 c1 c2 c3 c4 c5 c6
              clear x1 x2 x3 hp hv hwd hx hps hW1 hcv hlq hlr
              go_wp2_with (rw [← HW1.out])
              go_roundw
              case rel => exact ⟨j + 1, by omega, by go_num, hBj⟩
              case measure => simp [intOf] <;> omega
            · have HN := Lib.hid (won_name HGOOD.out hx h6 hwd)
              obtain ⟨K, nm, op, ps, py, wx, vl⟩ := x
              unfold lineObj at HW1
              dsimp only at h6 g0 g1 g2 g3 g4 g5 g6 HW1 HN
              obtain ⟨c0, c1, c2, c3, c4, c5, c6⟩ := hbx
              dsimp only at c0 c1 c2 c3 c4 c5 c6
              clear x1 x2 x3 hp hv hwd hx hps hW1 hlq hlr
              go_wp2_with (rw [← HW1.out])
              refine (impl_WidthOfName_any _ _ _ _ _ _ hl1 HOKS.out hlc).mono ?_
              rw [HN.out]
              rintro e w3 ⟨rfl, hb3⟩
              have hl3 := (hl1.below hb3 (Nat.le_refl _)).up hb3.size
              replace c1 := (hb3.cell (p := ⟨wr.heap.size, 1, none⟩) (lt_of_block_cell c1)).trans c1
              clear c0 c2 c3 c4 c5 c6 g0 g1 g2 g3 g4 g5 g6
              go_wp2_with fail
              refine (spec_WidthOfName_any _ _ _ _ _ _ hl3 HOKS.out (by omega) hlc).mono ?_
              rw [HN.out]
              rintro e w4 ⟨rfl, hb4⟩
              have hb14 := hbw.trans ((hb3.trans (hb4.mono hb3.size)).mono hbw.size)
              have hcv4 := (hb14.cell (p := ⟨b2, f2 + j, none⟩) hb2).trans hcv
              have hB4 := hbj.trans (hb14.mono hbj.size)
              clear c1 hcv
              go_wp2_with (rw [HP.out])
              go_roundw
              case rel => exact ⟨j + 1, by omega, by go_num, hB4⟩
              case measure => simp [intOf] <;> omega
          · go_wp2_with fail
            go_ret
            exact ⟨rfl, hB.trans (hbj.mono hB.size)⟩
end Go.Proofs.YtdlddkgmjpmenaaGreatDoor
