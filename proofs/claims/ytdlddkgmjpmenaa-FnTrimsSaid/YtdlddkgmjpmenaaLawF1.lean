/-
  The walk of FnTrims (printed by XLawF1.py).
-/
import Derived.Test.YtdlddkgmjpmenaaMO
import Derived.Test.YtdlddkgmjpmenaaQl
import Derived.Test.YtdlddkgmjpmenaaMK
import Derived.Test.YtdlddkgmjpmenaaMP
import Derived.Test.YtdlddkgmjpmenaaMG
import Derived.Test.YtdlddkgmjpmenaaMF
namespace Go.Proofs.Ytdlddkgmjpmenaa
open Go.RowKit
set_option linter.unusedVariables false
set_option linter.unusedSimpArgs false

theorem partsSum_leD : ∀ (ls : List Ln), okD ls → partsSum ls ≤ 100 * ls.length
  | [], _ => by simp [partsSum]
  | l :: ls, h => by
    have h1 := partsSum_leD ls (fun x hx => h x (List.mem_cons_of_mem _ hx))
    have h2 := (h l (List.mem_cons_self ..)).2.2
    rw [partsSum_cons, List.length_cons]
    omega
/-- What a program that trimming accepts gives. -/
theorem trim_back {ls T : List Ln} (h : trimF ls = (T, true)) : trimF T = (T, true) ∧ (∀ p, inWF T p = inWF ls p) ∧ (∀ a b, runPF T a b = runPF ls a b) ∧ laGoodF T = true ∧ (∀ p : Int, 0 ≤ p → p ≤ 1 → ∃ X, inWF ls p = (X, true)) := by
  unfold trimF at h
  by_cases hg : laGoodF ls = true
  · rw [if_pos hg] at h
    simp only [Prod.mk.injEq, and_true] at h
    subst h
    exact ⟨trim_again hg, fun p => trim_inWF hg p, fun a b => trim_runPF hg a b, trim_good hg, fun p h0 h1 => ⟨_, by unfold inWF; rw [if_pos ⟨hg, inB_iff.2 ⟨h0, h1⟩⟩]⟩⟩
  · rw [if_neg hg] at h
    simp at h
set_option maxRecDepth 100000 in
set_option maxHeartbeats 20000000 in
theorem walk_FnTrims (a0 : Option Addr) (n0 c0 : Nat) (z0 : List Int) (a1 : Option Addr) (n1 c1 : Nat) (z1 : List Int) (w0 : World) (hA0 : BytesArg w0 a0 n0 z0) (hA1 : BytesArg w0 a1 n1 z1) : Calls Try.prog 3 #[.slice a0 n0 c0, .slice a1 n1 c1] w0 (RetB true w0) := by
  by_cases hbig : (1048576 : Int) < wrap64 ((n0 : Int) + (n1 : Int))
  · go_enter Try.func3, Try.ntmps3
    go_wp2_with fail
    go_ret
    exact ⟨rfl, Below.refl _ _⟩
  have h0 := hA0.bytesAll
  have h1 := hA1.bytesAll
  clear hA0 hA1
  have hB : Below w0.heap.size w0 w0 := Below.refl _ _
  go_enter Try.func3, Try.ntmps3
  go_wp2_with fail
  refine (DrawValuesIn_any _ _ _ _ _ h0).mono ?_
  rintro e w1 ⟨ls, bl, nl, cl, xs, ys, o1, o2, m1, m2, d1, d2, rfl, hl, hlc, hln, hok, hx, hy, hm1', hm2', hb1⟩
  replace hB := hB.trans (hb1.mono hB.size)
  replace h0 := (h0.below hb1 (Nat.le_refl _)).up hb1.size
  replace h1 := (h1.below hb1 (Nat.le_refl _)).up hb1.size
  clear hb1
  have hokS := okD_okS hok
  have hsm := partsSum_leD ls hok
  have hll := hl.1
  obtain ⟨T, ok, hT⟩ : ∃ r o, trimF ls = (r, o) := ⟨_, _, rfl⟩
  have hokT := (trimF_ok hokS (by omega) hT.symm).1
  have HOKS := Lib.hid hokS
  have HOKT := Lib.hid hokT
  have HT := Lib.hid hT
  clear hok hokS hokT hT hsm hll
  go_wp2_with fail
  refine (impl_TrimProgram_any _ _ _ _ _ hl HOKS.out hlc).mono ?_
  rw [HT.out]
  rintro e w2 ⟨bot, not, cot, hot, rfl, ot, hb2⟩
  replace hB := hB.trans (hb2.mono hB.size)
  replace h0 := (h0.below hb2 (Nat.le_refl _)).up hb2.size
  replace h1 := (h1.below hb2 (Nat.le_refl _)).up hb2.size
  replace hl := (hl.below hb2 (Nat.le_refl _)).up hb2.size
  replace hx := (hx.below hb2 (Nat.le_refl _)).up hb2.size
  replace hy := (hy.below hb2 (Nat.le_refl _)).up hb2.size
  clear hb2
  have ht := ot.lns
  have qt := ownC_capLe ot.row
  clear ot
  go_wp2_with fail
  refine (spec_TrimProgram_any _ _ _ _ _ hl HOKS.out (by omega) hlc).mono ?_
  rw [HT.out]
  rintro e w3 ⟨bou, nou, cou, hou, rfl, ou, hb3⟩
  replace hB := hB.trans (hb3.mono hB.size)
  replace h0 := (h0.below hb3 (Nat.le_refl _)).up hb3.size
  replace h1 := (h1.below hb3 (Nat.le_refl _)).up hb3.size
  replace hl := (hl.below hb3 (Nat.le_refl _)).up hb3.size
  replace hx := (hx.below hb3 (Nat.le_refl _)).up hb3.size
  replace hy := (hy.below hb3 (Nat.le_refl _)).up hb3.size
  replace ht := (ht.below hb3 (Nat.le_refl _)).up hb3.size
  clear hb3
  have hu := ou.lns
  have qu := ownC_capLe ou.row
  clear ou
  have etu : not = nou := ht.1.symm.trans hu.1
  subst etu
  go_wp2_with fail
  refine (DrawCountOps_any _ _ _ _ _ h1).mono ?_
  rintro e w4 ⟨ps, bp, np, cp, rfl, hp, hpc, hpn, hokp, hb4⟩
  replace hB := hB.trans (hb4.mono hB.size)
  replace h0 := (h0.below hb4 (Nat.le_refl _)).up hb4.size
  replace h1 := (h1.below hb4 (Nat.le_refl _)).up hb4.size
  replace hl := (hl.below hb4 (Nat.le_refl _)).up hb4.size
  replace hx := (hx.below hb4 (Nat.le_refl _)).up hb4.size
  replace hy := (hy.below hb4 (Nat.le_refl _)).up hb4.size
  replace ht := (ht.below hb4 (Nat.le_refl _)).up hb4.size
  replace hu := (hu.below hb4 (Nat.le_refl _)).up hb4.size
  clear hb4
  have HOKP := Lib.hid (okD_okS hokp)
  clear hokp
  obtain ⟨C, one, hC⟩ : ∃ r o, countOpsF ps = (r, o) := ⟨_, _, rfl⟩
  have HC := Lib.hid hC
  clear hC
  obtain ⟨N, three, hN⟩ : ∃ r o, namesF ps = (r, o) := ⟨_, _, rfl⟩
  have HN := Lib.hid hN
  clear hN
  go_wp2_with fail
  refine (impl_CountOps_any _ _ _ _ _ hp HOKP.out hpc).mono ?_
  rw [HC.out]
  rintro e w5 ⟨boc, noc, coc, rfl, oc, hb5⟩
  replace hB := hB.trans (hb5.mono hB.size)
  replace h0 := (h0.below hb5 (Nat.le_refl _)).up hb5.size
  replace h1 := (h1.below hb5 (Nat.le_refl _)).up hb5.size
  replace hl := (hl.below hb5 (Nat.le_refl _)).up hb5.size
  replace hx := (hx.below hb5 (Nat.le_refl _)).up hb5.size
  replace hy := (hy.below hb5 (Nat.le_refl _)).up hb5.size
  replace ht := (ht.below hb5 (Nat.le_refl _)).up hb5.size
  replace hu := (hu.below hb5 (Nat.le_refl _)).up hb5.size
  replace hp := (hp.below hb5 (Nat.le_refl _)).up hb5.size
  clear hb5
  have hc := oc.ints
  clear oc
  go_wp2_with fail
  refine (spec_CountOps_any _ _ _ _ _ hp HOKP.out (by omega) hpc).mono ?_
  rw [HC.out]
  rintro e w6 ⟨bod, nod, cod, rfl, od, hb6⟩
  replace hB := hB.trans (hb6.mono hB.size)
  replace h0 := (h0.below hb6 (Nat.le_refl _)).up hb6.size
  replace h1 := (h1.below hb6 (Nat.le_refl _)).up hb6.size
  replace hl := (hl.below hb6 (Nat.le_refl _)).up hb6.size
  replace hx := (hx.below hb6 (Nat.le_refl _)).up hb6.size
  replace hy := (hy.below hb6 (Nat.le_refl _)).up hb6.size
  replace ht := (ht.below hb6 (Nat.le_refl _)).up hb6.size
  replace hu := (hu.below hb6 (Nat.le_refl _)).up hb6.size
  replace hp := (hp.below hb6 (Nat.le_refl _)).up hb6.size
  replace hc := (hc.below hb6 (Nat.le_refl _)).up hb6.size
  clear hb6
  have hd := od.ints
  clear od
  have ecd : noc = nod := hc.1.symm.trans hd.1
  subst ecd
  go_wp2_with fail
  refine (impl_NeededNames_any _ _ _ _ _ hp HOKP.out hpc).mono ?_
  rw [HN.out]
  rintro e w7 ⟨bon, non, con, rfl, on, hb7⟩
  replace hB := hB.trans (hb7.mono hB.size)
  replace h0 := (h0.below hb7 (Nat.le_refl _)).up hb7.size
  replace h1 := (h1.below hb7 (Nat.le_refl _)).up hb7.size
  replace hl := (hl.below hb7 (Nat.le_refl _)).up hb7.size
  replace hx := (hx.below hb7 (Nat.le_refl _)).up hb7.size
  replace hy := (hy.below hb7 (Nat.le_refl _)).up hb7.size
  replace ht := (ht.below hb7 (Nat.le_refl _)).up hb7.size
  replace hu := (hu.below hb7 (Nat.le_refl _)).up hb7.size
  replace hp := (hp.below hb7 (Nat.le_refl _)).up hb7.size
  replace hc := (hc.below hb7 (Nat.le_refl _)).up hb7.size
  replace hd := (hd.below hb7 (Nat.le_refl _)).up hb7.size
  clear hb7
  have hn := on.strs
  clear on
  go_wp2_with fail
  refine (spec_NeededNames_any _ _ _ _ _ hp HOKP.out (by omega) hpc).mono ?_
  rw [HN.out]
  rintro e w8 ⟨bok, nok, cok, rfl, ok, hb8⟩
  replace hB := hB.trans (hb8.mono hB.size)
  replace h0 := (h0.below hb8 (Nat.le_refl _)).up hb8.size
  replace h1 := (h1.below hb8 (Nat.le_refl _)).up hb8.size
  replace hl := (hl.below hb8 (Nat.le_refl _)).up hb8.size
  replace hx := (hx.below hb8 (Nat.le_refl _)).up hb8.size
  replace hy := (hy.below hb8 (Nat.le_refl _)).up hb8.size
  replace ht := (ht.below hb8 (Nat.le_refl _)).up hb8.size
  replace hu := (hu.below hb8 (Nat.le_refl _)).up hb8.size
  replace hp := (hp.below hb8 (Nat.le_refl _)).up hb8.size
  replace hc := (hc.below hb8 (Nat.le_refl _)).up hb8.size
  replace hd := (hd.below hb8 (Nat.le_refl _)).up hb8.size
  replace hn := (hn.below hb8 (Nat.le_refl _)).up hb8.size
  clear hb8
  have hk := ok.strs
  clear ok
  have enk : non = nok := hn.1.symm.trans hk.1
  subst enk
  go_wp2_with fail
  refine (DrawInputWidths_any _ _ _ _ _ h1).mono ?_
  rintro e w9 ⟨qs, bq, nq, cq, pty, rfl, hq, hqc, hqn, hokq, hb9⟩
  replace hB := hB.trans (hb9.mono hB.size)
  replace h0 := (h0.below hb9 (Nat.le_refl _)).up hb9.size
  replace h1 := (h1.below hb9 (Nat.le_refl _)).up hb9.size
  replace hl := (hl.below hb9 (Nat.le_refl _)).up hb9.size
  replace hx := (hx.below hb9 (Nat.le_refl _)).up hb9.size
  replace hy := (hy.below hb9 (Nat.le_refl _)).up hb9.size
  replace ht := (ht.below hb9 (Nat.le_refl _)).up hb9.size
  replace hu := (hu.below hb9 (Nat.le_refl _)).up hb9.size
  replace hp := (hp.below hb9 (Nat.le_refl _)).up hb9.size
  replace hc := (hc.below hb9 (Nat.le_refl _)).up hb9.size
  replace hd := (hd.below hb9 (Nat.le_refl _)).up hb9.size
  replace hn := (hn.below hb9 (Nat.le_refl _)).up hb9.size
  replace hk := (hk.below hb9 (Nat.le_refl _)).up hb9.size
  clear hb9
  have HOKQ := Lib.hid (okD_okS hokq)
  clear hokq
  obtain ⟨I, five, hI⟩ : ∃ r o, inWF qs pty = (r, o) := ⟨_, _, rfl⟩
  have HI := Lib.hid hI
  clear hI
  go_wp2_with fail
  refine (impl_InputWidths_any _ _ _ _ _ _ hq HOKQ.out hqc).mono ?_
  rw [HI.out]
  rintro e w10 ⟨boi, noi, coi, rfl, oi, hb10⟩
  replace hB := hB.trans (hb10.mono hB.size)
  replace h0 := (h0.below hb10 (Nat.le_refl _)).up hb10.size
  replace h1 := (h1.below hb10 (Nat.le_refl _)).up hb10.size
  replace hl := (hl.below hb10 (Nat.le_refl _)).up hb10.size
  replace hx := (hx.below hb10 (Nat.le_refl _)).up hb10.size
  replace hy := (hy.below hb10 (Nat.le_refl _)).up hb10.size
  replace ht := (ht.below hb10 (Nat.le_refl _)).up hb10.size
  replace hu := (hu.below hb10 (Nat.le_refl _)).up hb10.size
  replace hp := (hp.below hb10 (Nat.le_refl _)).up hb10.size
  replace hc := (hc.below hb10 (Nat.le_refl _)).up hb10.size
  replace hd := (hd.below hb10 (Nat.le_refl _)).up hb10.size
  replace hn := (hn.below hb10 (Nat.le_refl _)).up hb10.size
  replace hk := (hk.below hb10 (Nat.le_refl _)).up hb10.size
  replace hq := (hq.below hb10 (Nat.le_refl _)).up hb10.size
  clear hb10
  have hi := oi.ints
  clear oi
  go_wp2_with fail
  refine (spec_InputWidths_any _ _ _ _ _ _ hq HOKQ.out (by omega) hqc).mono ?_
  rw [HI.out]
  rintro e w11 ⟨boj, noj, coj, rfl, oj, hb11⟩
  replace hB := hB.trans (hb11.mono hB.size)
  replace h0 := (h0.below hb11 (Nat.le_refl _)).up hb11.size
  replace h1 := (h1.below hb11 (Nat.le_refl _)).up hb11.size
  replace hl := (hl.below hb11 (Nat.le_refl _)).up hb11.size
  replace hx := (hx.below hb11 (Nat.le_refl _)).up hb11.size
  replace hy := (hy.below hb11 (Nat.le_refl _)).up hb11.size
  replace ht := (ht.below hb11 (Nat.le_refl _)).up hb11.size
  replace hu := (hu.below hb11 (Nat.le_refl _)).up hb11.size
  replace hp := (hp.below hb11 (Nat.le_refl _)).up hb11.size
  replace hc := (hc.below hb11 (Nat.le_refl _)).up hb11.size
  replace hd := (hd.below hb11 (Nat.le_refl _)).up hb11.size
  replace hn := (hn.below hb11 (Nat.le_refl _)).up hb11.size
  replace hk := (hk.below hb11 (Nat.le_refl _)).up hb11.size
  replace hq := (hq.below hb11 (Nat.le_refl _)).up hb11.size
  replace hi := (hi.below hb11 (Nat.le_refl _)).up hb11.size
  clear hb11
  have hj := oj.ints
  clear oj
  have eij : noi = noj := hi.1.symm.trans hj.1
  subst eij
  go_wp2_with fail
  refine (qLines_same _ _ _ _ _ _ _ _ _ ht hu (Nat.le_refl _) (Nat.le_refl _)).mono ?_
  rintro e w12 ⟨rfl, hb12⟩
  replace hB := hB.trans (hb12.mono hB.size)
  replace h0 := (h0.below hb12 (Nat.le_refl _)).up hb12.size
  replace h1 := (h1.below hb12 (Nat.le_refl _)).up hb12.size
  replace hl := (hl.below hb12 (Nat.le_refl _)).up hb12.size
  replace hx := (hx.below hb12 (Nat.le_refl _)).up hb12.size
  replace hy := (hy.below hb12 (Nat.le_refl _)).up hb12.size
  replace ht := (ht.below hb12 (Nat.le_refl _)).up hb12.size
  replace hu := (hu.below hb12 (Nat.le_refl _)).up hb12.size
  replace hp := (hp.below hb12 (Nat.le_refl _)).up hb12.size
  replace hc := (hc.below hb12 (Nat.le_refl _)).up hb12.size
  replace hd := (hd.below hb12 (Nat.le_refl _)).up hb12.size
  replace hn := (hn.below hb12 (Nat.le_refl _)).up hb12.size
  replace hk := (hk.below hb12 (Nat.le_refl _)).up hb12.size
  replace hq := (hq.below hb12 (Nat.le_refl _)).up hb12.size
  replace hi := (hi.below hb12 (Nat.le_refl _)).up hb12.size
  replace hj := (hj.below hb12 (Nat.le_refl _)).up hb12.size
  clear hb12
  go_wp2_with fail
  refine (qInts_same _ _ _ _ _ _ _ _ _ hc hd (Nat.le_refl _) (Nat.le_refl _)).mono ?_
  rintro e w13 ⟨rfl, hb13⟩
  replace hB := hB.trans (hb13.mono hB.size)
  replace h0 := (h0.below hb13 (Nat.le_refl _)).up hb13.size
  replace h1 := (h1.below hb13 (Nat.le_refl _)).up hb13.size
  replace hl := (hl.below hb13 (Nat.le_refl _)).up hb13.size
  replace hx := (hx.below hb13 (Nat.le_refl _)).up hb13.size
  replace hy := (hy.below hb13 (Nat.le_refl _)).up hb13.size
  replace ht := (ht.below hb13 (Nat.le_refl _)).up hb13.size
  replace hu := (hu.below hb13 (Nat.le_refl _)).up hb13.size
  replace hp := (hp.below hb13 (Nat.le_refl _)).up hb13.size
  replace hc := (hc.below hb13 (Nat.le_refl _)).up hb13.size
  replace hd := (hd.below hb13 (Nat.le_refl _)).up hb13.size
  replace hn := (hn.below hb13 (Nat.le_refl _)).up hb13.size
  replace hk := (hk.below hb13 (Nat.le_refl _)).up hb13.size
  replace hq := (hq.below hb13 (Nat.le_refl _)).up hb13.size
  replace hi := (hi.below hb13 (Nat.le_refl _)).up hb13.size
  replace hj := (hj.below hb13 (Nat.le_refl _)).up hb13.size
  clear hb13
  go_wp2_with fail
  refine (qTexts_same _ _ _ _ _ _ _ _ _ hn hk (Nat.le_refl _) (Nat.le_refl _)).mono ?_
  rintro e w14 ⟨rfl, hb14⟩
  replace hB := hB.trans (hb14.mono hB.size)
  replace h0 := (h0.below hb14 (Nat.le_refl _)).up hb14.size
  replace h1 := (h1.below hb14 (Nat.le_refl _)).up hb14.size
  replace hl := (hl.below hb14 (Nat.le_refl _)).up hb14.size
  replace hx := (hx.below hb14 (Nat.le_refl _)).up hb14.size
  replace hy := (hy.below hb14 (Nat.le_refl _)).up hb14.size
  replace ht := (ht.below hb14 (Nat.le_refl _)).up hb14.size
  replace hu := (hu.below hb14 (Nat.le_refl _)).up hb14.size
  replace hp := (hp.below hb14 (Nat.le_refl _)).up hb14.size
  replace hc := (hc.below hb14 (Nat.le_refl _)).up hb14.size
  replace hd := (hd.below hb14 (Nat.le_refl _)).up hb14.size
  replace hn := (hn.below hb14 (Nat.le_refl _)).up hb14.size
  replace hk := (hk.below hb14 (Nat.le_refl _)).up hb14.size
  replace hq := (hq.below hb14 (Nat.le_refl _)).up hb14.size
  replace hi := (hi.below hb14 (Nat.le_refl _)).up hb14.size
  replace hj := (hj.below hb14 (Nat.le_refl _)).up hb14.size
  clear hb14
  go_wp2_with fail
  refine (qInts_same _ _ _ _ _ _ _ _ _ hi hj (Nat.le_refl _) (Nat.le_refl _)).mono ?_
  rintro e w15 ⟨rfl, hb15⟩
  replace hB := hB.trans (hb15.mono hB.size)
  replace h0 := (h0.below hb15 (Nat.le_refl _)).up hb15.size
  replace h1 := (h1.below hb15 (Nat.le_refl _)).up hb15.size
  replace hl := (hl.below hb15 (Nat.le_refl _)).up hb15.size
  replace hx := (hx.below hb15 (Nat.le_refl _)).up hb15.size
  replace hy := (hy.below hb15 (Nat.le_refl _)).up hb15.size
  replace ht := (ht.below hb15 (Nat.le_refl _)).up hb15.size
  replace hu := (hu.below hb15 (Nat.le_refl _)).up hb15.size
  replace hp := (hp.below hb15 (Nat.le_refl _)).up hb15.size
  replace hc := (hc.below hb15 (Nat.le_refl _)).up hb15.size
  replace hd := (hd.below hb15 (Nat.le_refl _)).up hb15.size
  replace hn := (hn.below hb15 (Nat.le_refl _)).up hb15.size
  replace hk := (hk.below hb15 (Nat.le_refl _)).up hb15.size
  replace hq := (hq.below hb15 (Nat.le_refl _)).up hb15.size
  replace hi := (hi.below hb15 (Nat.le_refl _)).up hb15.size
  replace hj := (hj.below hb15 (Nat.le_refl _)).up hb15.size
  clear hb15
  clear hc hd hn hk hi hj hp hq h0 h1 HOKP HOKQ HC HN HI
  cases ok
  · skip
    go_wp2_with fail
    go_ret
    exact ⟨rfl, hB⟩
  · skip
    obtain ⟨e1, e2, e3, e4, e5⟩ := trim_back HT.out
    have E1 := Lib.hid e1
    have E2 := Lib.hid e2
    have E3 := Lib.hid e3
    have E4 := Lib.hid e4
    have E5 := Lib.hid e5
    clear e1 e2 e3 e4 e5
    go_wp2_with fail
    refine (impl_TrimProgram_any _ _ _ _ _ ht HOKT.out qt).mono ?_
    rw [E1.out]
    rintro e w16 ⟨boa, noa, coa, hoa, rfl, oa, hb16⟩
    replace hB := hB.trans (hb16.mono hB.size)
    replace hl := (hl.below hb16 (Nat.le_refl _)).up hb16.size
    replace hx := (hx.below hb16 (Nat.le_refl _)).up hb16.size
    replace hy := (hy.below hb16 (Nat.le_refl _)).up hb16.size
    replace ht := (ht.below hb16 (Nat.le_refl _)).up hb16.size
    replace hu := (hu.below hb16 (Nat.le_refl _)).up hb16.size
    clear hb16
    have ha := oa.lns
    have qa := ownC_capLe oa.row
    clear oa
    have ea : not = noa := hu.1.symm.trans ha.1
    subst ea
    go_wp2_with fail
    obtain ⟨wq, rfl⟩ : ∃ wq : World, wq = w16 := ⟨_, rfl⟩
    go_loopw [29] (fun s wx => ∃ k : Nat, k ≤ 2 ∧ s = .int .i64 k ∧ Below wq.heap.size wq wx) (fun s _ => 2 - (intOf s).toNat)
    case atStart => exact ⟨0, by omega, rfl, Below.refl _ _⟩
    case round =>
      obtain ⟨k, hk, rfl, hbk⟩ := hrel
      replace hB := hB.trans (hbk.mono hB.size)
      replace hl := (hl.below hbk (Nat.le_refl _)).up hbk.size
      replace hx := (hx.below hbk (Nat.le_refl _)).up hbk.size
      replace hy := (hy.below hbk (Nat.le_refl _)).up hbk.size
      replace ht := (ht.below hbk (Nat.le_refl _)).up hbk.size
      replace hu := (hu.below hbk (Nat.le_refl _)).up hbk.size
      replace ha := (ha.below hbk (Nat.le_refl _)).up hbk.size
      by_cases hk2 : (k : Int) < 2
      · skip
        obtain ⟨X, hX⟩ := E5.out k (by omega) (by omega)
        have HX := Lib.hid hX
        have HX2 := Lib.hid ((E2.out k).trans hX)
        clear hX
        have hbz := hbk
        go_wp2_with fail
        refine (impl_InputWidths_any _ _ _ _ _ _ hl HOKS.out hlc).mono ?_
        rw [HX.out]
        rintro e v1 ⟨bof, nof, cof, rfl, oF, hbv1⟩
        replace hbz := hbz.trans (hbv1.mono hbz.size)
        replace hl := (hl.below hbv1 (Nat.le_refl _)).up hbv1.size
        replace hx := (hx.below hbv1 (Nat.le_refl _)).up hbv1.size
        replace hy := (hy.below hbv1 (Nat.le_refl _)).up hbv1.size
        replace ht := (ht.below hbv1 (Nat.le_refl _)).up hbv1.size
        replace hu := (hu.below hbv1 (Nat.le_refl _)).up hbv1.size
        replace ha := (ha.below hbv1 (Nat.le_refl _)).up hbv1.size
        clear hbv1
        have hf := oF.ints
        clear oF
        go_wp2_with fail
        refine (impl_InputWidths_any _ _ _ _ _ _ ht HOKT.out qt).mono ?_
        rw [HX2.out]
        rintro e v2 ⟨bog, nog, cog, rfl, oG, hbv2⟩
        replace hbz := hbz.trans (hbv2.mono hbz.size)
        replace hl := (hl.below hbv2 (Nat.le_refl _)).up hbv2.size
        replace hx := (hx.below hbv2 (Nat.le_refl _)).up hbv2.size
        replace hy := (hy.below hbv2 (Nat.le_refl _)).up hbv2.size
        replace ht := (ht.below hbv2 (Nat.le_refl _)).up hbv2.size
        replace hu := (hu.below hbv2 (Nat.le_refl _)).up hbv2.size
        replace ha := (ha.below hbv2 (Nat.le_refl _)).up hbv2.size
        replace hf := (hf.below hbv2 (Nat.le_refl _)).up hbv2.size
        clear hbv2
        have hg := oG.ints
        clear oG
        have efg : nof = nog := hf.1.symm.trans hg.1
        subst efg
        go_wp2_with fail
        refine (qInts_same _ _ _ _ _ _ _ _ _ hf hg (Nat.le_refl _) (Nat.le_refl _)).mono ?_
        rintro e v3 ⟨rfl, hbv3⟩
        replace hbz := hbz.trans (hbv3.mono hbz.size)
        replace hl := (hl.below hbv3 (Nat.le_refl _)).up hbv3.size
        replace hx := (hx.below hbv3 (Nat.le_refl _)).up hbv3.size
        replace hy := (hy.below hbv3 (Nat.le_refl _)).up hbv3.size
        replace ht := (ht.below hbv3 (Nat.le_refl _)).up hbv3.size
        replace hu := (hu.below hbv3 (Nat.le_refl _)).up hbv3.size
        replace ha := (ha.below hbv3 (Nat.le_refl _)).up hbv3.size
        replace hf := (hf.below hbv3 (Nat.le_refl _)).up hbv3.size
        replace hg := (hg.below hbv3 (Nat.le_refl _)).up hbv3.size
        clear hbv3
        go_wp2_with fail
        go_roundw
        case rel => exact ⟨k + 1, by omega, by go_num, hbz⟩
        case measure => simp [intOf] <;> omega
      · skip
        obtain rfl : k = 2 := by omega
        obtain ⟨R, was, hR⟩ : ∃ r o, runPF ls xs ys = (r, o) := ⟨_, _, rfl⟩
        have HR := Lib.hid hR
        have HR2 := Lib.hid ((E3.out xs ys).trans hR)
        clear hR
        go_wp2_with fail
        refine (impl_RunProgram_any _ _ _ _ _ _ _ _ _ _ _ _ _ hl HOKS.out hlc hx hy).mono ?_
        rw [HR.out]
        rintro e w101 ⟨bor, nor, cor, rfl, or, hb101⟩
        replace hB := hB.trans (hb101.mono hB.size)
        replace hl := (hl.below hb101 (Nat.le_refl _)).up hb101.size
        replace hx := (hx.below hb101 (Nat.le_refl _)).up hb101.size
        replace hy := (hy.below hb101 (Nat.le_refl _)).up hb101.size
        replace ht := (ht.below hb101 (Nat.le_refl _)).up hb101.size
        replace hu := (hu.below hb101 (Nat.le_refl _)).up hb101.size
        replace ha := (ha.below hb101 (Nat.le_refl _)).up hb101.size
        clear hb101
        have hr := or.ints
        clear or
        go_wp2_with fail
        refine (impl_RunProgram_any _ _ _ _ _ _ _ _ _ _ _ _ _ ht HOKT.out qt hx hy).mono ?_
        rw [HR2.out]
        rintro e w102 ⟨bos, nos, cos, rfl, os, hb102⟩
        replace hB := hB.trans (hb102.mono hB.size)
        replace hl := (hl.below hb102 (Nat.le_refl _)).up hb102.size
        replace hx := (hx.below hb102 (Nat.le_refl _)).up hb102.size
        replace hy := (hy.below hb102 (Nat.le_refl _)).up hb102.size
        replace ht := (ht.below hb102 (Nat.le_refl _)).up hb102.size
        replace hu := (hu.below hb102 (Nat.le_refl _)).up hb102.size
        replace ha := (ha.below hb102 (Nat.le_refl _)).up hb102.size
        replace hr := (hr.below hb102 (Nat.le_refl _)).up hb102.size
        clear hb102
        have hs := os.ints
        clear os
        have ers : nor = nos := hr.1.symm.trans hs.1
        subst ers
        go_wp2_with fail
        refine (qLines_same _ _ _ _ _ _ _ _ _ ha hu (Nat.le_refl _) (Nat.le_refl _)).mono ?_
        rintro e w103 ⟨rfl, hb103⟩
        replace hB := hB.trans (hb103.mono hB.size)
        replace hl := (hl.below hb103 (Nat.le_refl _)).up hb103.size
        replace hx := (hx.below hb103 (Nat.le_refl _)).up hb103.size
        replace hy := (hy.below hb103 (Nat.le_refl _)).up hb103.size
        replace ht := (ht.below hb103 (Nat.le_refl _)).up hb103.size
        replace hu := (hu.below hb103 (Nat.le_refl _)).up hb103.size
        replace ha := (ha.below hb103 (Nat.le_refl _)).up hb103.size
        replace hr := (hr.below hb103 (Nat.le_refl _)).up hb103.size
        replace hs := (hs.below hb103 (Nat.le_refl _)).up hb103.size
        clear hb103
        go_wp2_with fail
        refine (impl_IsProgram_any _ _ _ _ _ ht HOKT.out qt).mono ?_
        rw [E4.out]
        rintro e w104 ⟨rfl, hb104⟩
        replace hB := hB.trans (hb104.mono hB.size)
        replace hl := (hl.below hb104 (Nat.le_refl _)).up hb104.size
        replace hx := (hx.below hb104 (Nat.le_refl _)).up hb104.size
        replace hy := (hy.below hb104 (Nat.le_refl _)).up hb104.size
        replace ht := (ht.below hb104 (Nat.le_refl _)).up hb104.size
        replace hu := (hu.below hb104 (Nat.le_refl _)).up hb104.size
        replace ha := (ha.below hb104 (Nat.le_refl _)).up hb104.size
        replace hr := (hr.below hb104 (Nat.le_refl _)).up hb104.size
        replace hs := (hs.below hb104 (Nat.le_refl _)).up hb104.size
        clear hb104
        go_wp2_with fail
        refine (qInts_same _ _ _ _ _ _ _ _ _ hr hs (Nat.le_refl _) (Nat.le_refl _)).mono ?_
        rintro e w105 ⟨rfl, hb105⟩
        replace hB := hB.trans (hb105.mono hB.size)
        replace hl := (hl.below hb105 (Nat.le_refl _)).up hb105.size
        replace hx := (hx.below hb105 (Nat.le_refl _)).up hb105.size
        replace hy := (hy.below hb105 (Nat.le_refl _)).up hb105.size
        replace ht := (ht.below hb105 (Nat.le_refl _)).up hb105.size
        replace hu := (hu.below hb105 (Nat.le_refl _)).up hb105.size
        replace ha := (ha.below hb105 (Nat.le_refl _)).up hb105.size
        replace hr := (hr.below hb105 (Nat.le_refl _)).up hb105.size
        replace hs := (hs.below hb105 (Nat.le_refl _)).up hb105.size
        clear hb105
        go_wp2_with fail
        go_ret
        exact ⟨rfl, hB⟩
end Go.Proofs.Ytdlddkgmjpmenaa
