/-
  The law on streams: its walk (printed by gen_draw.py).
-/
import Derived.Test.YtnpndpmelgfmbaaLh1
import Derived.Test.YtnpndpmelgfmbaaDr4
import Derived.Test.YtnpndpmelgfmbaaPl2
namespace Go.Proofs.Ytnpndpmelgfmbaa
open Go.RowKit
set_option linter.unusedVariables false
set_option linter.unusedSimpArgs false

set_option maxRecDepth 100000 in
set_option maxHeartbeats 20000000 in
theorem walk_FnStreams (a0 : Option Addr) (n0 c0 : Nat) (z0 : List Int) (a1 : Option Addr) (n1 c1 : Nat) (z1 : List Int) (w0 : World) (hA0 : BytesArg w0 a0 n0 z0) (hA1 : BytesArg w0 a1 n1 z1) : Calls Try.prog 7 #[.slice a0 n0 c0, .slice a1 n1 c1] w0 (RetB true w0) := by
  cases hbig : bigF n0 n1
  rotate_left
  · go_enter Try.func7, Try.ntmps7
    go_wp2_with fail
    refine (big_any _ _ _ _ _ _ _ hA0.2.1 hA1.2.1).mono ?_
    rintro e w' ⟨rfl, rfl⟩
    rw [hbig]
    go_wp2_with fail
    go_ret
    exact ⟨rfl, Below.refl _ _⟩
  obtain ⟨g0, g1⟩ := bigF_no hbig
  have h0 := hA0.bytes g0
  have h1 := hA1.bytes g1
  have hm0 := hA0.2.1
  have hm1 := hA1.2.1
  clear hA0 hA1
  have hB : Below w0.heap.size w0 w0 := Below.refl _ _
  go_enter Try.func7, Try.ntmps7
  go_wp2_with fail
  refine (big_any _ _ _ _ _ _ _ hm0 hm1).mono ?_
  rintro e w' ⟨rfl, rfl⟩
  rw [hbig]
  go_wp2_with fail
  refine (DrawStreamXor_any _ _ _ _ _ h0).mono ?_
  rintro e w1 ⟨xk, bk, nk, ck, xb, bb, nb, cb, rfl, hk, hnk, hbb, hnb, hb1⟩
  replace hB := hB.trans (hb1.mono hB.size)
  replace h0 := (h0.below hb1 (Nat.le_refl _)).up hb1.size
  replace h1 := (h1.below hb1 (Nat.le_refl _)).up hb1.size
  clear hb1
  obtain ⟨xs, okS, hS⟩ : ∃ r o, streamF xk xb = (r, o) := ⟨_, _, rfl⟩
  have HS := Lib.hid hS
  clear hS
  go_wp2_with fail
  refine (impl_StreamXor_any _ _ _ _ _ _ _ _ _ hk hbb).mono ?_
  rw [HS.out]
  rintro e w2 ⟨bos, nos, cos, rfl, os, hb2⟩
  replace hB := hB.trans (hb2.mono hB.size)
  replace h0 := (h0.below hb2 (Nat.le_refl _)).up hb2.size
  replace h1 := (h1.below hb2 (Nat.le_refl _)).up hb2.size
  replace hk := (hk.below hb2 (Nat.le_refl _)).up hb2.size
  replace hbb := (hbb.below hb2 (Nat.le_refl _)).up hb2.size
  clear hb2
  have hs := os.ints
  clear os
  go_wp2_with fail
  refine (spec_StreamXor_any _ _ _ _ _ _ _ _ _ hk hbb).mono ?_
  rw [HS.out]
  rintro e w3 ⟨bot, not, cot, rfl, ot, hb3⟩
  replace hB := hB.trans (hb3.mono hB.size)
  replace h0 := (h0.below hb3 (Nat.le_refl _)).up hb3.size
  replace h1 := (h1.below hb3 (Nat.le_refl _)).up hb3.size
  replace hk := (hk.below hb3 (Nat.le_refl _)).up hb3.size
  replace hbb := (hbb.below hb3 (Nat.le_refl _)).up hb3.size
  replace hs := (hs.below hb3 (Nat.le_refl _)).up hb3.size
  clear hb3
  have ht := ot.ints
  clear ot
  go_wp2_with fail
  refine (sameInts_any _ _ _ _ _ _ _ _ _ _ _ hs ht (Nat.le_refl _) (Nat.le_refl _)).mono ?_
  rintro e w4 ⟨rfl, hb4⟩
  rw [eqB_self]
  replace hB := hB.trans (hb4.mono hB.size)
  replace h0 := (h0.below hb4 (Nat.le_refl _)).up hb4.size
  replace h1 := (h1.below hb4 (Nat.le_refl _)).up hb4.size
  replace hk := (hk.below hb4 (Nat.le_refl _)).up hb4.size
  replace hbb := (hbb.below hb4 (Nat.le_refl _)).up hb4.size
  replace hs := (hs.below hb4 (Nat.le_refl _)).up hb4.size
  replace ht := (ht.below hb4 (Nat.le_refl _)).up hb4.size
  clear hb4
  cases okS
  · skip
    go_wp2_with fail
    refine (DrawOrderFrom_any _ _ _ _ _ h1).mono ?_
    rintro e w5 ⟨xo, bo, no, co, mo, rfl, ho, hno, _, _, hb5⟩
    replace hB := hB.trans (hb5.mono hB.size)
    replace h0 := (h0.below hb5 (Nat.le_refl _)).up hb5.size
    replace h1 := (h1.below hb5 (Nat.le_refl _)).up hb5.size
    replace hk := (hk.below hb5 (Nat.le_refl _)).up hb5.size
    replace hbb := (hbb.below hb5 (Nat.le_refl _)).up hb5.size
    replace hs := (hs.below hb5 (Nat.le_refl _)).up hb5.size
    replace ht := (ht.below hb5 (Nat.le_refl _)).up hb5.size
    clear hb5
    obtain ⟨l, okO, hO⟩ : ∃ r o, orderFromF xo mo = (r, o) := ⟨_, _, rfl⟩
    have HO := Lib.hid hO
    clear hO
    go_wp2_with fail
    refine (impl_OrderFrom_any _ _ _ _ _ _ ho).mono ?_
    rw [HO.out]
    rintro e w6 ⟨bop, nop, cop, rfl, op, hb6⟩
    replace hB := hB.trans (hb6.mono hB.size)
    replace h0 := (h0.below hb6 (Nat.le_refl _)).up hb6.size
    replace h1 := (h1.below hb6 (Nat.le_refl _)).up hb6.size
    replace hk := (hk.below hb6 (Nat.le_refl _)).up hb6.size
    replace hbb := (hbb.below hb6 (Nat.le_refl _)).up hb6.size
    replace hs := (hs.below hb6 (Nat.le_refl _)).up hb6.size
    replace ht := (ht.below hb6 (Nat.le_refl _)).up hb6.size
    replace ho := (ho.below hb6 (Nat.le_refl _)).up hb6.size
    clear hb6
    have hp := op.ints
    clear op
    go_wp2_with fail
    refine (spec_OrderFrom_any _ _ _ _ _ _ ho).mono ?_
    rw [HO.out]
    rintro e w7 ⟨boq, noq, coq, rfl, oq, hb7⟩
    replace hB := hB.trans (hb7.mono hB.size)
    replace h0 := (h0.below hb7 (Nat.le_refl _)).up hb7.size
    replace h1 := (h1.below hb7 (Nat.le_refl _)).up hb7.size
    replace hk := (hk.below hb7 (Nat.le_refl _)).up hb7.size
    replace hbb := (hbb.below hb7 (Nat.le_refl _)).up hb7.size
    replace hs := (hs.below hb7 (Nat.le_refl _)).up hb7.size
    replace ht := (ht.below hb7 (Nat.le_refl _)).up hb7.size
    replace ho := (ho.below hb7 (Nat.le_refl _)).up hb7.size
    replace hp := (hp.below hb7 (Nat.le_refl _)).up hb7.size
    clear hb7
    have hq := oq.ints
    clear oq
    go_wp2_with fail
    refine (sameInts_any _ _ _ _ _ _ _ _ _ _ _ hp hq (Nat.le_refl _) (Nat.le_refl _)).mono ?_
    rintro e w8 ⟨rfl, hb8⟩
    rw [eqB_self]
    replace hB := hB.trans (hb8.mono hB.size)
    replace h0 := (h0.below hb8 (Nat.le_refl _)).up hb8.size
    replace h1 := (h1.below hb8 (Nat.le_refl _)).up hb8.size
    replace hk := (hk.below hb8 (Nat.le_refl _)).up hb8.size
    replace hbb := (hbb.below hb8 (Nat.le_refl _)).up hb8.size
    replace hs := (hs.below hb8 (Nat.le_refl _)).up hb8.size
    replace ht := (ht.below hb8 (Nat.le_refl _)).up hb8.size
    replace ho := (ho.below hb8 (Nat.le_refl _)).up hb8.size
    replace hp := (hp.below hb8 (Nat.le_refl _)).up hb8.size
    replace hq := (hq.below hb8 (Nat.le_refl _)).up hb8.size
    clear hb8
    cases okO
    · skip
      go_wp2_with fail
      refine wp_loop_rounds 1 ?_
      rw [rounds_succ]
      go_wp2_with fail
      refine (DrawNumberFrom_any _ _ _ _ _ h1).mono ?_
      rintro e w9 ⟨xm, bm, nm, cm, km, rfl, hm, hnm, _, _, hb9⟩
      replace hB := hB.trans (hb9.mono hB.size)
      replace h0 := (h0.below hb9 (Nat.le_refl _)).up hb9.size
      replace h1 := (h1.below hb9 (Nat.le_refl _)).up hb9.size
      replace hk := (hk.below hb9 (Nat.le_refl _)).up hb9.size
      replace hbb := (hbb.below hb9 (Nat.le_refl _)).up hb9.size
      replace hs := (hs.below hb9 (Nat.le_refl _)).up hb9.size
      replace ht := (ht.below hb9 (Nat.le_refl _)).up hb9.size
      replace ho := (ho.below hb9 (Nat.le_refl _)).up hb9.size
      replace hp := (hp.below hb9 (Nat.le_refl _)).up hb9.size
      replace hq := (hq.below hb9 (Nat.le_refl _)).up hb9.size
      clear hb9
      obtain ⟨x, okN, hN⟩ : ∃ r o, numberFromF xm km = (r, o) := ⟨_, _, rfl⟩
      have HN := Lib.hid hN
      clear hN
      go_wp2_with fail
      refine (impl_NumberFrom_any _ _ _ _ _ _ hm).mono ?_
      rw [HN.out]
      rintro e w10 ⟨rfl, hb10⟩
      replace hB := hB.trans (hb10.mono hB.size)
      replace h0 := (h0.below hb10 (Nat.le_refl _)).up hb10.size
      replace h1 := (h1.below hb10 (Nat.le_refl _)).up hb10.size
      replace hk := (hk.below hb10 (Nat.le_refl _)).up hb10.size
      replace hbb := (hbb.below hb10 (Nat.le_refl _)).up hb10.size
      replace hs := (hs.below hb10 (Nat.le_refl _)).up hb10.size
      replace ht := (ht.below hb10 (Nat.le_refl _)).up hb10.size
      replace ho := (ho.below hb10 (Nat.le_refl _)).up hb10.size
      replace hp := (hp.below hb10 (Nat.le_refl _)).up hb10.size
      replace hq := (hq.below hb10 (Nat.le_refl _)).up hb10.size
      replace hm := (hm.below hb10 (Nat.le_refl _)).up hb10.size
      clear hb10
      go_wp2_with fail
      refine (spec_NumberFrom_any _ _ _ _ _ _ hm).mono ?_
      rw [HN.out]
      rintro e w11 ⟨rfl, hb11⟩
      replace hB := hB.trans (hb11.mono hB.size)
      replace h0 := (h0.below hb11 (Nat.le_refl _)).up hb11.size
      replace h1 := (h1.below hb11 (Nat.le_refl _)).up hb11.size
      replace hk := (hk.below hb11 (Nat.le_refl _)).up hb11.size
      replace hbb := (hbb.below hb11 (Nat.le_refl _)).up hb11.size
      replace hs := (hs.below hb11 (Nat.le_refl _)).up hb11.size
      replace ht := (ht.below hb11 (Nat.le_refl _)).up hb11.size
      replace ho := (ho.below hb11 (Nat.le_refl _)).up hb11.size
      replace hp := (hp.below hb11 (Nat.le_refl _)).up hb11.size
      replace hq := (hq.below hb11 (Nat.le_refl _)).up hb11.size
      replace hm := (hm.below hb11 (Nat.le_refl _)).up hb11.size
      clear hb11
      cases okN
      · skip
        go_wp2_with fail
        refine (DrawBitsFrom_any _ _ _ _ _ h1).mono ?_
        rintro e w12 ⟨xf, bf, nf, cf, kf, rfl, hf, hnf, _, _, hb12⟩
        replace hB := hB.trans (hb12.mono hB.size)
        replace h0 := (h0.below hb12 (Nat.le_refl _)).up hb12.size
        replace h1 := (h1.below hb12 (Nat.le_refl _)).up hb12.size
        replace hk := (hk.below hb12 (Nat.le_refl _)).up hb12.size
        replace hbb := (hbb.below hb12 (Nat.le_refl _)).up hb12.size
        replace hs := (hs.below hb12 (Nat.le_refl _)).up hb12.size
        replace ht := (ht.below hb12 (Nat.le_refl _)).up hb12.size
        replace ho := (ho.below hb12 (Nat.le_refl _)).up hb12.size
        replace hp := (hp.below hb12 (Nat.le_refl _)).up hb12.size
        replace hq := (hq.below hb12 (Nat.le_refl _)).up hb12.size
        replace hm := (hm.below hb12 (Nat.le_refl _)).up hb12.size
        clear hb12
        obtain ⟨lf, okF, hF⟩ : ∃ r o, bitsFromF xf kf = (r, o) := ⟨_, _, rfl⟩
        have HF := Lib.hid hF
        clear hF
        go_wp2_with fail
        refine (impl_BitsFrom_any _ _ _ _ _ _ hf).mono ?_
        rw [HF.out]
        rintro e w13 ⟨bou, nou, cou, rfl, ou, hb13⟩
        replace hB := hB.trans (hb13.mono hB.size)
        replace h0 := (h0.below hb13 (Nat.le_refl _)).up hb13.size
        replace h1 := (h1.below hb13 (Nat.le_refl _)).up hb13.size
        replace hk := (hk.below hb13 (Nat.le_refl _)).up hb13.size
        replace hbb := (hbb.below hb13 (Nat.le_refl _)).up hb13.size
        replace hs := (hs.below hb13 (Nat.le_refl _)).up hb13.size
        replace ht := (ht.below hb13 (Nat.le_refl _)).up hb13.size
        replace ho := (ho.below hb13 (Nat.le_refl _)).up hb13.size
        replace hp := (hp.below hb13 (Nat.le_refl _)).up hb13.size
        replace hq := (hq.below hb13 (Nat.le_refl _)).up hb13.size
        replace hm := (hm.below hb13 (Nat.le_refl _)).up hb13.size
        replace hf := (hf.below hb13 (Nat.le_refl _)).up hb13.size
        clear hb13
        have hu := ou.ints
        clear ou
        go_wp2_with fail
        refine (spec_BitsFrom_any _ _ _ _ _ _ hf).mono ?_
        rw [HF.out]
        rintro e w14 ⟨bov, nov, cov, rfl, ov, hb14⟩
        replace hB := hB.trans (hb14.mono hB.size)
        replace h0 := (h0.below hb14 (Nat.le_refl _)).up hb14.size
        replace h1 := (h1.below hb14 (Nat.le_refl _)).up hb14.size
        replace hk := (hk.below hb14 (Nat.le_refl _)).up hb14.size
        replace hbb := (hbb.below hb14 (Nat.le_refl _)).up hb14.size
        replace hs := (hs.below hb14 (Nat.le_refl _)).up hb14.size
        replace ht := (ht.below hb14 (Nat.le_refl _)).up hb14.size
        replace ho := (ho.below hb14 (Nat.le_refl _)).up hb14.size
        replace hp := (hp.below hb14 (Nat.le_refl _)).up hb14.size
        replace hq := (hq.below hb14 (Nat.le_refl _)).up hb14.size
        replace hm := (hm.below hb14 (Nat.le_refl _)).up hb14.size
        replace hf := (hf.below hb14 (Nat.le_refl _)).up hb14.size
        replace hu := (hu.below hb14 (Nat.le_refl _)).up hb14.size
        clear hb14
        have hv := ov.ints
        clear ov
        cases okF
        · skip
          go_wp2_with fail
          refine (sameInts_any _ _ _ _ _ _ _ _ _ _ _ hu hv (Nat.le_refl _) (Nat.le_refl _)).mono ?_
          rintro e w15 ⟨rfl, hb15⟩
          rw [eqB_self]
          replace hB := hB.trans (hb15.mono hB.size)
          replace h0 := (h0.below hb15 (Nat.le_refl _)).up hb15.size
          replace h1 := (h1.below hb15 (Nat.le_refl _)).up hb15.size
          replace hk := (hk.below hb15 (Nat.le_refl _)).up hb15.size
          replace hbb := (hbb.below hb15 (Nat.le_refl _)).up hb15.size
          replace hs := (hs.below hb15 (Nat.le_refl _)).up hb15.size
          replace ht := (ht.below hb15 (Nat.le_refl _)).up hb15.size
          replace ho := (ho.below hb15 (Nat.le_refl _)).up hb15.size
          replace hp := (hp.below hb15 (Nat.le_refl _)).up hb15.size
          replace hq := (hq.below hb15 (Nat.le_refl _)).up hb15.size
          replace hm := (hm.below hb15 (Nat.le_refl _)).up hb15.size
          replace hf := (hf.below hb15 (Nat.le_refl _)).up hb15.size
          replace hu := (hu.below hb15 (Nat.le_refl _)).up hb15.size
          replace hv := (hv.below hb15 (Nat.le_refl _)).up hb15.size
          clear hb15
          go_wp2_with fail
          go_ret
          exact ⟨rfl, hB⟩
        · skip
          go_wp2_with fail
          refine (sameInts_any _ _ _ _ _ _ _ _ _ _ _ hu hv (Nat.le_refl _) (Nat.le_refl _)).mono ?_
          rintro e w15 ⟨rfl, hb15⟩
          rw [eqB_self]
          replace hB := hB.trans (hb15.mono hB.size)
          replace h0 := (h0.below hb15 (Nat.le_refl _)).up hb15.size
          replace h1 := (h1.below hb15 (Nat.le_refl _)).up hb15.size
          replace hk := (hk.below hb15 (Nat.le_refl _)).up hb15.size
          replace hbb := (hbb.below hb15 (Nat.le_refl _)).up hb15.size
          replace hs := (hs.below hb15 (Nat.le_refl _)).up hb15.size
          replace ht := (ht.below hb15 (Nat.le_refl _)).up hb15.size
          replace ho := (ho.below hb15 (Nat.le_refl _)).up hb15.size
          replace hp := (hp.below hb15 (Nat.le_refl _)).up hb15.size
          replace hq := (hq.below hb15 (Nat.le_refl _)).up hb15.size
          replace hm := (hm.below hb15 (Nat.le_refl _)).up hb15.size
          replace hf := (hf.below hb15 (Nat.le_refl _)).up hb15.size
          replace hu := (hu.below hb15 (Nat.le_refl _)).up hb15.size
          replace hv := (hv.below hb15 (Nat.le_refl _)).up hb15.size
          clear hb15
          go_wp2_with fail
          go_ret
          exact ⟨rfl, hB⟩
      · skip
        obtain ⟨hxa, hxb⟩ := number_back HN.out
        go_wp2_with fail
        refine (DrawBitsFrom_any _ _ _ _ _ h1).mono ?_
        rintro e w12 ⟨xf, bf, nf, cf, kf, rfl, hf, hnf, _, _, hb12⟩
        replace hB := hB.trans (hb12.mono hB.size)
        replace h0 := (h0.below hb12 (Nat.le_refl _)).up hb12.size
        replace h1 := (h1.below hb12 (Nat.le_refl _)).up hb12.size
        replace hk := (hk.below hb12 (Nat.le_refl _)).up hb12.size
        replace hbb := (hbb.below hb12 (Nat.le_refl _)).up hb12.size
        replace hs := (hs.below hb12 (Nat.le_refl _)).up hb12.size
        replace ht := (ht.below hb12 (Nat.le_refl _)).up hb12.size
        replace ho := (ho.below hb12 (Nat.le_refl _)).up hb12.size
        replace hp := (hp.below hb12 (Nat.le_refl _)).up hb12.size
        replace hq := (hq.below hb12 (Nat.le_refl _)).up hb12.size
        replace hm := (hm.below hb12 (Nat.le_refl _)).up hb12.size
        clear hb12
        obtain ⟨lf, okF, hF⟩ : ∃ r o, bitsFromF xf kf = (r, o) := ⟨_, _, rfl⟩
        have HF := Lib.hid hF
        clear hF
        go_wp2_with fail
        refine (impl_BitsFrom_any _ _ _ _ _ _ hf).mono ?_
        rw [HF.out]
        rintro e w13 ⟨bou, nou, cou, rfl, ou, hb13⟩
        replace hB := hB.trans (hb13.mono hB.size)
        replace h0 := (h0.below hb13 (Nat.le_refl _)).up hb13.size
        replace h1 := (h1.below hb13 (Nat.le_refl _)).up hb13.size
        replace hk := (hk.below hb13 (Nat.le_refl _)).up hb13.size
        replace hbb := (hbb.below hb13 (Nat.le_refl _)).up hb13.size
        replace hs := (hs.below hb13 (Nat.le_refl _)).up hb13.size
        replace ht := (ht.below hb13 (Nat.le_refl _)).up hb13.size
        replace ho := (ho.below hb13 (Nat.le_refl _)).up hb13.size
        replace hp := (hp.below hb13 (Nat.le_refl _)).up hb13.size
        replace hq := (hq.below hb13 (Nat.le_refl _)).up hb13.size
        replace hm := (hm.below hb13 (Nat.le_refl _)).up hb13.size
        replace hf := (hf.below hb13 (Nat.le_refl _)).up hb13.size
        clear hb13
        have hu := ou.ints
        clear ou
        go_wp2_with fail
        refine (spec_BitsFrom_any _ _ _ _ _ _ hf).mono ?_
        rw [HF.out]
        rintro e w14 ⟨bov, nov, cov, rfl, ov, hb14⟩
        replace hB := hB.trans (hb14.mono hB.size)
        replace h0 := (h0.below hb14 (Nat.le_refl _)).up hb14.size
        replace h1 := (h1.below hb14 (Nat.le_refl _)).up hb14.size
        replace hk := (hk.below hb14 (Nat.le_refl _)).up hb14.size
        replace hbb := (hbb.below hb14 (Nat.le_refl _)).up hb14.size
        replace hs := (hs.below hb14 (Nat.le_refl _)).up hb14.size
        replace ht := (ht.below hb14 (Nat.le_refl _)).up hb14.size
        replace ho := (ho.below hb14 (Nat.le_refl _)).up hb14.size
        replace hp := (hp.below hb14 (Nat.le_refl _)).up hb14.size
        replace hq := (hq.below hb14 (Nat.le_refl _)).up hb14.size
        replace hm := (hm.below hb14 (Nat.le_refl _)).up hb14.size
        replace hf := (hf.below hb14 (Nat.le_refl _)).up hb14.size
        replace hu := (hu.below hb14 (Nat.le_refl _)).up hb14.size
        clear hb14
        have hv := ov.ints
        clear ov
        cases okF
        · skip
          go_wp2_with fail
          refine (sameInts_any _ _ _ _ _ _ _ _ _ _ _ hu hv (Nat.le_refl _) (Nat.le_refl _)).mono ?_
          rintro e w15 ⟨rfl, hb15⟩
          rw [eqB_self]
          replace hB := hB.trans (hb15.mono hB.size)
          replace h0 := (h0.below hb15 (Nat.le_refl _)).up hb15.size
          replace h1 := (h1.below hb15 (Nat.le_refl _)).up hb15.size
          replace hk := (hk.below hb15 (Nat.le_refl _)).up hb15.size
          replace hbb := (hbb.below hb15 (Nat.le_refl _)).up hb15.size
          replace hs := (hs.below hb15 (Nat.le_refl _)).up hb15.size
          replace ht := (ht.below hb15 (Nat.le_refl _)).up hb15.size
          replace ho := (ho.below hb15 (Nat.le_refl _)).up hb15.size
          replace hp := (hp.below hb15 (Nat.le_refl _)).up hb15.size
          replace hq := (hq.below hb15 (Nat.le_refl _)).up hb15.size
          replace hm := (hm.below hb15 (Nat.le_refl _)).up hb15.size
          replace hf := (hf.below hb15 (Nat.le_refl _)).up hb15.size
          replace hu := (hu.below hb15 (Nat.le_refl _)).up hb15.size
          replace hv := (hv.below hb15 (Nat.le_refl _)).up hb15.size
          clear hb15
          go_wp2_with fail
          go_ret
          exact ⟨rfl, hB⟩
        · skip
          go_wp2_with fail
          refine (sameInts_any _ _ _ _ _ _ _ _ _ _ _ hu hv (Nat.le_refl _) (Nat.le_refl _)).mono ?_
          rintro e w15 ⟨rfl, hb15⟩
          rw [eqB_self]
          replace hB := hB.trans (hb15.mono hB.size)
          replace h0 := (h0.below hb15 (Nat.le_refl _)).up hb15.size
          replace h1 := (h1.below hb15 (Nat.le_refl _)).up hb15.size
          replace hk := (hk.below hb15 (Nat.le_refl _)).up hb15.size
          replace hbb := (hbb.below hb15 (Nat.le_refl _)).up hb15.size
          replace hs := (hs.below hb15 (Nat.le_refl _)).up hb15.size
          replace ht := (ht.below hb15 (Nat.le_refl _)).up hb15.size
          replace ho := (ho.below hb15 (Nat.le_refl _)).up hb15.size
          replace hp := (hp.below hb15 (Nat.le_refl _)).up hb15.size
          replace hq := (hq.below hb15 (Nat.le_refl _)).up hb15.size
          replace hm := (hm.below hb15 (Nat.le_refl _)).up hb15.size
          replace hf := (hf.below hb15 (Nat.le_refl _)).up hb15.size
          replace hu := (hu.below hb15 (Nat.le_refl _)).up hb15.size
          replace hv := (hv.below hb15 (Nat.le_refl _)).up hb15.size
          clear hb15
          go_wp2_with fail
          go_ret
          exact ⟨rfl, hB⟩
    · skip
      obtain ⟨hm0, hm40, hin⟩ := order_back HO.out
      have HIN := Lib.hid hin
      clear hin
      go_wp2_with fail
      go_loop [19] (fun i => ∃ k : Nat, (k : Int) ≤ mo ∧ i = .int .i64 k) (fun i => 40 - (intOf i).toNat)
      case atStart => exact ⟨0, by omega, rfl⟩
      case round =>
        obtain ⟨k, hkm, rfl⟩ := hrel
        by_cases hlt : (k : Int) < mo
        · have hin1 : inL (k : Int) l = true := by unfold inL; exact decide_eq_true (HIN.out k hlt)
          go_wp2_with fail
          refine (pIn_any _ _ _ _ _ _ _ hq).mono ?_
          rintro e w' ⟨rfl, rfl⟩
          rw [hin1]
          go_wp2_with fail
          go_round
          case rel => exact ⟨k + 1, by omega, by go_num⟩
          case measure => simp [intOf] <;> omega
        · skip
          go_wp2_with fail
          refine (DrawNumberFrom_any _ _ _ _ _ h1).mono ?_
          rintro e w9 ⟨xm, bm, nm, cm, km, rfl, hm, hnm, _, _, hb9⟩
          replace hB := hB.trans (hb9.mono hB.size)
          replace h0 := (h0.below hb9 (Nat.le_refl _)).up hb9.size
          replace h1 := (h1.below hb9 (Nat.le_refl _)).up hb9.size
          replace hk := (hk.below hb9 (Nat.le_refl _)).up hb9.size
          replace hbb := (hbb.below hb9 (Nat.le_refl _)).up hb9.size
          replace hs := (hs.below hb9 (Nat.le_refl _)).up hb9.size
          replace ht := (ht.below hb9 (Nat.le_refl _)).up hb9.size
          replace ho := (ho.below hb9 (Nat.le_refl _)).up hb9.size
          replace hp := (hp.below hb9 (Nat.le_refl _)).up hb9.size
          replace hq := (hq.below hb9 (Nat.le_refl _)).up hb9.size
          clear hb9
          obtain ⟨x, okN, hN⟩ : ∃ r o, numberFromF xm km = (r, o) := ⟨_, _, rfl⟩
          have HN := Lib.hid hN
          clear hN
          go_wp2_with fail
          refine (impl_NumberFrom_any _ _ _ _ _ _ hm).mono ?_
          rw [HN.out]
          rintro e w10 ⟨rfl, hb10⟩
          replace hB := hB.trans (hb10.mono hB.size)
          replace h0 := (h0.below hb10 (Nat.le_refl _)).up hb10.size
          replace h1 := (h1.below hb10 (Nat.le_refl _)).up hb10.size
          replace hk := (hk.below hb10 (Nat.le_refl _)).up hb10.size
          replace hbb := (hbb.below hb10 (Nat.le_refl _)).up hb10.size
          replace hs := (hs.below hb10 (Nat.le_refl _)).up hb10.size
          replace ht := (ht.below hb10 (Nat.le_refl _)).up hb10.size
          replace ho := (ho.below hb10 (Nat.le_refl _)).up hb10.size
          replace hp := (hp.below hb10 (Nat.le_refl _)).up hb10.size
          replace hq := (hq.below hb10 (Nat.le_refl _)).up hb10.size
          replace hm := (hm.below hb10 (Nat.le_refl _)).up hb10.size
          clear hb10
          go_wp2_with fail
          refine (spec_NumberFrom_any _ _ _ _ _ _ hm).mono ?_
          rw [HN.out]
          rintro e w11 ⟨rfl, hb11⟩
          replace hB := hB.trans (hb11.mono hB.size)
          replace h0 := (h0.below hb11 (Nat.le_refl _)).up hb11.size
          replace h1 := (h1.below hb11 (Nat.le_refl _)).up hb11.size
          replace hk := (hk.below hb11 (Nat.le_refl _)).up hb11.size
          replace hbb := (hbb.below hb11 (Nat.le_refl _)).up hb11.size
          replace hs := (hs.below hb11 (Nat.le_refl _)).up hb11.size
          replace ht := (ht.below hb11 (Nat.le_refl _)).up hb11.size
          replace ho := (ho.below hb11 (Nat.le_refl _)).up hb11.size
          replace hp := (hp.below hb11 (Nat.le_refl _)).up hb11.size
          replace hq := (hq.below hb11 (Nat.le_refl _)).up hb11.size
          replace hm := (hm.below hb11 (Nat.le_refl _)).up hb11.size
          clear hb11
          cases okN
          · skip
            go_wp2_with fail
            refine (DrawBitsFrom_any _ _ _ _ _ h1).mono ?_
            rintro e w12 ⟨xf, bf, nf, cf, kf, rfl, hf, hnf, _, _, hb12⟩
            replace hB := hB.trans (hb12.mono hB.size)
            replace h0 := (h0.below hb12 (Nat.le_refl _)).up hb12.size
            replace h1 := (h1.below hb12 (Nat.le_refl _)).up hb12.size
            replace hk := (hk.below hb12 (Nat.le_refl _)).up hb12.size
            replace hbb := (hbb.below hb12 (Nat.le_refl _)).up hb12.size
            replace hs := (hs.below hb12 (Nat.le_refl _)).up hb12.size
            replace ht := (ht.below hb12 (Nat.le_refl _)).up hb12.size
            replace ho := (ho.below hb12 (Nat.le_refl _)).up hb12.size
            replace hp := (hp.below hb12 (Nat.le_refl _)).up hb12.size
            replace hq := (hq.below hb12 (Nat.le_refl _)).up hb12.size
            replace hm := (hm.below hb12 (Nat.le_refl _)).up hb12.size
            clear hb12
            obtain ⟨lf, okF, hF⟩ : ∃ r o, bitsFromF xf kf = (r, o) := ⟨_, _, rfl⟩
            have HF := Lib.hid hF
            clear hF
            go_wp2_with fail
            refine (impl_BitsFrom_any _ _ _ _ _ _ hf).mono ?_
            rw [HF.out]
            rintro e w13 ⟨bou, nou, cou, rfl, ou, hb13⟩
            replace hB := hB.trans (hb13.mono hB.size)
            replace h0 := (h0.below hb13 (Nat.le_refl _)).up hb13.size
            replace h1 := (h1.below hb13 (Nat.le_refl _)).up hb13.size
            replace hk := (hk.below hb13 (Nat.le_refl _)).up hb13.size
            replace hbb := (hbb.below hb13 (Nat.le_refl _)).up hb13.size
            replace hs := (hs.below hb13 (Nat.le_refl _)).up hb13.size
            replace ht := (ht.below hb13 (Nat.le_refl _)).up hb13.size
            replace ho := (ho.below hb13 (Nat.le_refl _)).up hb13.size
            replace hp := (hp.below hb13 (Nat.le_refl _)).up hb13.size
            replace hq := (hq.below hb13 (Nat.le_refl _)).up hb13.size
            replace hm := (hm.below hb13 (Nat.le_refl _)).up hb13.size
            replace hf := (hf.below hb13 (Nat.le_refl _)).up hb13.size
            clear hb13
            have hu := ou.ints
            clear ou
            go_wp2_with fail
            refine (spec_BitsFrom_any _ _ _ _ _ _ hf).mono ?_
            rw [HF.out]
            rintro e w14 ⟨bov, nov, cov, rfl, ov, hb14⟩
            replace hB := hB.trans (hb14.mono hB.size)
            replace h0 := (h0.below hb14 (Nat.le_refl _)).up hb14.size
            replace h1 := (h1.below hb14 (Nat.le_refl _)).up hb14.size
            replace hk := (hk.below hb14 (Nat.le_refl _)).up hb14.size
            replace hbb := (hbb.below hb14 (Nat.le_refl _)).up hb14.size
            replace hs := (hs.below hb14 (Nat.le_refl _)).up hb14.size
            replace ht := (ht.below hb14 (Nat.le_refl _)).up hb14.size
            replace ho := (ho.below hb14 (Nat.le_refl _)).up hb14.size
            replace hp := (hp.below hb14 (Nat.le_refl _)).up hb14.size
            replace hq := (hq.below hb14 (Nat.le_refl _)).up hb14.size
            replace hm := (hm.below hb14 (Nat.le_refl _)).up hb14.size
            replace hf := (hf.below hb14 (Nat.le_refl _)).up hb14.size
            replace hu := (hu.below hb14 (Nat.le_refl _)).up hb14.size
            clear hb14
            have hv := ov.ints
            clear ov
            cases okF
            · skip
              go_wp2_with fail
              refine (sameInts_any _ _ _ _ _ _ _ _ _ _ _ hu hv (Nat.le_refl _) (Nat.le_refl _)).mono ?_
              rintro e w15 ⟨rfl, hb15⟩
              rw [eqB_self]
              replace hB := hB.trans (hb15.mono hB.size)
              replace h0 := (h0.below hb15 (Nat.le_refl _)).up hb15.size
              replace h1 := (h1.below hb15 (Nat.le_refl _)).up hb15.size
              replace hk := (hk.below hb15 (Nat.le_refl _)).up hb15.size
              replace hbb := (hbb.below hb15 (Nat.le_refl _)).up hb15.size
              replace hs := (hs.below hb15 (Nat.le_refl _)).up hb15.size
              replace ht := (ht.below hb15 (Nat.le_refl _)).up hb15.size
              replace ho := (ho.below hb15 (Nat.le_refl _)).up hb15.size
              replace hp := (hp.below hb15 (Nat.le_refl _)).up hb15.size
              replace hq := (hq.below hb15 (Nat.le_refl _)).up hb15.size
              replace hm := (hm.below hb15 (Nat.le_refl _)).up hb15.size
              replace hf := (hf.below hb15 (Nat.le_refl _)).up hb15.size
              replace hu := (hu.below hb15 (Nat.le_refl _)).up hb15.size
              replace hv := (hv.below hb15 (Nat.le_refl _)).up hb15.size
              clear hb15
              go_wp2_with fail
              go_ret
              exact ⟨rfl, hB⟩
            · skip
              go_wp2_with fail
              refine (sameInts_any _ _ _ _ _ _ _ _ _ _ _ hu hv (Nat.le_refl _) (Nat.le_refl _)).mono ?_
              rintro e w15 ⟨rfl, hb15⟩
              rw [eqB_self]
              replace hB := hB.trans (hb15.mono hB.size)
              replace h0 := (h0.below hb15 (Nat.le_refl _)).up hb15.size
              replace h1 := (h1.below hb15 (Nat.le_refl _)).up hb15.size
              replace hk := (hk.below hb15 (Nat.le_refl _)).up hb15.size
              replace hbb := (hbb.below hb15 (Nat.le_refl _)).up hb15.size
              replace hs := (hs.below hb15 (Nat.le_refl _)).up hb15.size
              replace ht := (ht.below hb15 (Nat.le_refl _)).up hb15.size
              replace ho := (ho.below hb15 (Nat.le_refl _)).up hb15.size
              replace hp := (hp.below hb15 (Nat.le_refl _)).up hb15.size
              replace hq := (hq.below hb15 (Nat.le_refl _)).up hb15.size
              replace hm := (hm.below hb15 (Nat.le_refl _)).up hb15.size
              replace hf := (hf.below hb15 (Nat.le_refl _)).up hb15.size
              replace hu := (hu.below hb15 (Nat.le_refl _)).up hb15.size
              replace hv := (hv.below hb15 (Nat.le_refl _)).up hb15.size
              clear hb15
              go_wp2_with fail
              go_ret
              exact ⟨rfl, hB⟩
          · skip
            obtain ⟨hxa, hxb⟩ := number_back HN.out
            go_wp2_with fail
            refine (DrawBitsFrom_any _ _ _ _ _ h1).mono ?_
            rintro e w12 ⟨xf, bf, nf, cf, kf, rfl, hf, hnf, _, _, hb12⟩
            replace hB := hB.trans (hb12.mono hB.size)
            replace h0 := (h0.below hb12 (Nat.le_refl _)).up hb12.size
            replace h1 := (h1.below hb12 (Nat.le_refl _)).up hb12.size
            replace hk := (hk.below hb12 (Nat.le_refl _)).up hb12.size
            replace hbb := (hbb.below hb12 (Nat.le_refl _)).up hb12.size
            replace hs := (hs.below hb12 (Nat.le_refl _)).up hb12.size
            replace ht := (ht.below hb12 (Nat.le_refl _)).up hb12.size
            replace ho := (ho.below hb12 (Nat.le_refl _)).up hb12.size
            replace hp := (hp.below hb12 (Nat.le_refl _)).up hb12.size
            replace hq := (hq.below hb12 (Nat.le_refl _)).up hb12.size
            replace hm := (hm.below hb12 (Nat.le_refl _)).up hb12.size
            clear hb12
            obtain ⟨lf, okF, hF⟩ : ∃ r o, bitsFromF xf kf = (r, o) := ⟨_, _, rfl⟩
            have HF := Lib.hid hF
            clear hF
            go_wp2_with fail
            refine (impl_BitsFrom_any _ _ _ _ _ _ hf).mono ?_
            rw [HF.out]
            rintro e w13 ⟨bou, nou, cou, rfl, ou, hb13⟩
            replace hB := hB.trans (hb13.mono hB.size)
            replace h0 := (h0.below hb13 (Nat.le_refl _)).up hb13.size
            replace h1 := (h1.below hb13 (Nat.le_refl _)).up hb13.size
            replace hk := (hk.below hb13 (Nat.le_refl _)).up hb13.size
            replace hbb := (hbb.below hb13 (Nat.le_refl _)).up hb13.size
            replace hs := (hs.below hb13 (Nat.le_refl _)).up hb13.size
            replace ht := (ht.below hb13 (Nat.le_refl _)).up hb13.size
            replace ho := (ho.below hb13 (Nat.le_refl _)).up hb13.size
            replace hp := (hp.below hb13 (Nat.le_refl _)).up hb13.size
            replace hq := (hq.below hb13 (Nat.le_refl _)).up hb13.size
            replace hm := (hm.below hb13 (Nat.le_refl _)).up hb13.size
            replace hf := (hf.below hb13 (Nat.le_refl _)).up hb13.size
            clear hb13
            have hu := ou.ints
            clear ou
            go_wp2_with fail
            refine (spec_BitsFrom_any _ _ _ _ _ _ hf).mono ?_
            rw [HF.out]
            rintro e w14 ⟨bov, nov, cov, rfl, ov, hb14⟩
            replace hB := hB.trans (hb14.mono hB.size)
            replace h0 := (h0.below hb14 (Nat.le_refl _)).up hb14.size
            replace h1 := (h1.below hb14 (Nat.le_refl _)).up hb14.size
            replace hk := (hk.below hb14 (Nat.le_refl _)).up hb14.size
            replace hbb := (hbb.below hb14 (Nat.le_refl _)).up hb14.size
            replace hs := (hs.below hb14 (Nat.le_refl _)).up hb14.size
            replace ht := (ht.below hb14 (Nat.le_refl _)).up hb14.size
            replace ho := (ho.below hb14 (Nat.le_refl _)).up hb14.size
            replace hp := (hp.below hb14 (Nat.le_refl _)).up hb14.size
            replace hq := (hq.below hb14 (Nat.le_refl _)).up hb14.size
            replace hm := (hm.below hb14 (Nat.le_refl _)).up hb14.size
            replace hf := (hf.below hb14 (Nat.le_refl _)).up hb14.size
            replace hu := (hu.below hb14 (Nat.le_refl _)).up hb14.size
            clear hb14
            have hv := ov.ints
            clear ov
            cases okF
            · skip
              go_wp2_with fail
              refine (sameInts_any _ _ _ _ _ _ _ _ _ _ _ hu hv (Nat.le_refl _) (Nat.le_refl _)).mono ?_
              rintro e w15 ⟨rfl, hb15⟩
              rw [eqB_self]
              replace hB := hB.trans (hb15.mono hB.size)
              replace h0 := (h0.below hb15 (Nat.le_refl _)).up hb15.size
              replace h1 := (h1.below hb15 (Nat.le_refl _)).up hb15.size
              replace hk := (hk.below hb15 (Nat.le_refl _)).up hb15.size
              replace hbb := (hbb.below hb15 (Nat.le_refl _)).up hb15.size
              replace hs := (hs.below hb15 (Nat.le_refl _)).up hb15.size
              replace ht := (ht.below hb15 (Nat.le_refl _)).up hb15.size
              replace ho := (ho.below hb15 (Nat.le_refl _)).up hb15.size
              replace hp := (hp.below hb15 (Nat.le_refl _)).up hb15.size
              replace hq := (hq.below hb15 (Nat.le_refl _)).up hb15.size
              replace hm := (hm.below hb15 (Nat.le_refl _)).up hb15.size
              replace hf := (hf.below hb15 (Nat.le_refl _)).up hb15.size
              replace hu := (hu.below hb15 (Nat.le_refl _)).up hb15.size
              replace hv := (hv.below hb15 (Nat.le_refl _)).up hb15.size
              clear hb15
              go_wp2_with fail
              go_ret
              exact ⟨rfl, hB⟩
            · skip
              go_wp2_with fail
              refine (sameInts_any _ _ _ _ _ _ _ _ _ _ _ hu hv (Nat.le_refl _) (Nat.le_refl _)).mono ?_
              rintro e w15 ⟨rfl, hb15⟩
              rw [eqB_self]
              replace hB := hB.trans (hb15.mono hB.size)
              replace h0 := (h0.below hb15 (Nat.le_refl _)).up hb15.size
              replace h1 := (h1.below hb15 (Nat.le_refl _)).up hb15.size
              replace hk := (hk.below hb15 (Nat.le_refl _)).up hb15.size
              replace hbb := (hbb.below hb15 (Nat.le_refl _)).up hb15.size
              replace hs := (hs.below hb15 (Nat.le_refl _)).up hb15.size
              replace ht := (ht.below hb15 (Nat.le_refl _)).up hb15.size
              replace ho := (ho.below hb15 (Nat.le_refl _)).up hb15.size
              replace hp := (hp.below hb15 (Nat.le_refl _)).up hb15.size
              replace hq := (hq.below hb15 (Nat.le_refl _)).up hb15.size
              replace hm := (hm.below hb15 (Nat.le_refl _)).up hb15.size
              replace hf := (hf.below hb15 (Nat.le_refl _)).up hb15.size
              replace hu := (hu.below hb15 (Nat.le_refl _)).up hb15.size
              replace hv := (hv.below hb15 (Nat.le_refl _)).up hb15.size
              clear hb15
              go_wp2_with fail
              go_ret
              exact ⟨rfl, hB⟩
  · skip
    have HK := Lib.hid (stream_back HS.out)
    go_wp2_with fail
    refine (impl_StreamXor_any _ _ _ _ _ _ _ _ _ hk hs).mono ?_
    rw [HK.out]
    rintro e w5 ⟨boz, noz, coz, rfl, oz, hb5⟩
    replace hB := hB.trans (hb5.mono hB.size)
    replace h0 := (h0.below hb5 (Nat.le_refl _)).up hb5.size
    replace h1 := (h1.below hb5 (Nat.le_refl _)).up hb5.size
    replace hk := (hk.below hb5 (Nat.le_refl _)).up hb5.size
    replace hbb := (hbb.below hb5 (Nat.le_refl _)).up hb5.size
    replace hs := (hs.below hb5 (Nat.le_refl _)).up hb5.size
    replace ht := (ht.below hb5 (Nat.le_refl _)).up hb5.size
    clear hb5
    have hz := oz.ints
    clear oz
    go_wp2_with fail
    refine (sameInts_any _ _ _ _ _ _ _ _ _ _ _ hz hbb (Nat.le_refl _) (Nat.le_refl _)).mono ?_
    rintro e w6 ⟨rfl, hb6⟩
    rw [eqB_self]
    replace hB := hB.trans (hb6.mono hB.size)
    replace h0 := (h0.below hb6 (Nat.le_refl _)).up hb6.size
    replace h1 := (h1.below hb6 (Nat.le_refl _)).up hb6.size
    replace hk := (hk.below hb6 (Nat.le_refl _)).up hb6.size
    replace hbb := (hbb.below hb6 (Nat.le_refl _)).up hb6.size
    replace hs := (hs.below hb6 (Nat.le_refl _)).up hb6.size
    replace ht := (ht.below hb6 (Nat.le_refl _)).up hb6.size
    replace hz := (hz.below hb6 (Nat.le_refl _)).up hb6.size
    clear hb6
    go_wp2_with fail
    refine (DrawOrderFrom_any _ _ _ _ _ h1).mono ?_
    rintro e w7 ⟨xo, bo, no, co, mo, rfl, ho, hno, _, _, hb7⟩
    replace hB := hB.trans (hb7.mono hB.size)
    replace h0 := (h0.below hb7 (Nat.le_refl _)).up hb7.size
    replace h1 := (h1.below hb7 (Nat.le_refl _)).up hb7.size
    replace hk := (hk.below hb7 (Nat.le_refl _)).up hb7.size
    replace hbb := (hbb.below hb7 (Nat.le_refl _)).up hb7.size
    replace hs := (hs.below hb7 (Nat.le_refl _)).up hb7.size
    replace ht := (ht.below hb7 (Nat.le_refl _)).up hb7.size
    replace hz := (hz.below hb7 (Nat.le_refl _)).up hb7.size
    clear hb7
    obtain ⟨l, okO, hO⟩ : ∃ r o, orderFromF xo mo = (r, o) := ⟨_, _, rfl⟩
    have HO := Lib.hid hO
    clear hO
    go_wp2_with fail
    refine (impl_OrderFrom_any _ _ _ _ _ _ ho).mono ?_
    rw [HO.out]
    rintro e w8 ⟨bop, nop, cop, rfl, op, hb8⟩
    replace hB := hB.trans (hb8.mono hB.size)
    replace h0 := (h0.below hb8 (Nat.le_refl _)).up hb8.size
    replace h1 := (h1.below hb8 (Nat.le_refl _)).up hb8.size
    replace hk := (hk.below hb8 (Nat.le_refl _)).up hb8.size
    replace hbb := (hbb.below hb8 (Nat.le_refl _)).up hb8.size
    replace hs := (hs.below hb8 (Nat.le_refl _)).up hb8.size
    replace ht := (ht.below hb8 (Nat.le_refl _)).up hb8.size
    replace hz := (hz.below hb8 (Nat.le_refl _)).up hb8.size
    replace ho := (ho.below hb8 (Nat.le_refl _)).up hb8.size
    clear hb8
    have hp := op.ints
    clear op
    go_wp2_with fail
    refine (spec_OrderFrom_any _ _ _ _ _ _ ho).mono ?_
    rw [HO.out]
    rintro e w9 ⟨boq, noq, coq, rfl, oq, hb9⟩
    replace hB := hB.trans (hb9.mono hB.size)
    replace h0 := (h0.below hb9 (Nat.le_refl _)).up hb9.size
    replace h1 := (h1.below hb9 (Nat.le_refl _)).up hb9.size
    replace hk := (hk.below hb9 (Nat.le_refl _)).up hb9.size
    replace hbb := (hbb.below hb9 (Nat.le_refl _)).up hb9.size
    replace hs := (hs.below hb9 (Nat.le_refl _)).up hb9.size
    replace ht := (ht.below hb9 (Nat.le_refl _)).up hb9.size
    replace hz := (hz.below hb9 (Nat.le_refl _)).up hb9.size
    replace ho := (ho.below hb9 (Nat.le_refl _)).up hb9.size
    replace hp := (hp.below hb9 (Nat.le_refl _)).up hb9.size
    clear hb9
    have hq := oq.ints
    clear oq
    go_wp2_with fail
    refine (sameInts_any _ _ _ _ _ _ _ _ _ _ _ hp hq (Nat.le_refl _) (Nat.le_refl _)).mono ?_
    rintro e w10 ⟨rfl, hb10⟩
    rw [eqB_self]
    replace hB := hB.trans (hb10.mono hB.size)
    replace h0 := (h0.below hb10 (Nat.le_refl _)).up hb10.size
    replace h1 := (h1.below hb10 (Nat.le_refl _)).up hb10.size
    replace hk := (hk.below hb10 (Nat.le_refl _)).up hb10.size
    replace hbb := (hbb.below hb10 (Nat.le_refl _)).up hb10.size
    replace hs := (hs.below hb10 (Nat.le_refl _)).up hb10.size
    replace ht := (ht.below hb10 (Nat.le_refl _)).up hb10.size
    replace hz := (hz.below hb10 (Nat.le_refl _)).up hb10.size
    replace ho := (ho.below hb10 (Nat.le_refl _)).up hb10.size
    replace hp := (hp.below hb10 (Nat.le_refl _)).up hb10.size
    replace hq := (hq.below hb10 (Nat.le_refl _)).up hb10.size
    clear hb10
    cases okO
    · skip
      go_wp2_with fail
      refine wp_loop_rounds 1 ?_
      rw [rounds_succ]
      go_wp2_with fail
      refine (DrawNumberFrom_any _ _ _ _ _ h1).mono ?_
      rintro e w11 ⟨xm, bm, nm, cm, km, rfl, hm, hnm, _, _, hb11⟩
      replace hB := hB.trans (hb11.mono hB.size)
      replace h0 := (h0.below hb11 (Nat.le_refl _)).up hb11.size
      replace h1 := (h1.below hb11 (Nat.le_refl _)).up hb11.size
      replace hk := (hk.below hb11 (Nat.le_refl _)).up hb11.size
      replace hbb := (hbb.below hb11 (Nat.le_refl _)).up hb11.size
      replace hs := (hs.below hb11 (Nat.le_refl _)).up hb11.size
      replace ht := (ht.below hb11 (Nat.le_refl _)).up hb11.size
      replace hz := (hz.below hb11 (Nat.le_refl _)).up hb11.size
      replace ho := (ho.below hb11 (Nat.le_refl _)).up hb11.size
      replace hp := (hp.below hb11 (Nat.le_refl _)).up hb11.size
      replace hq := (hq.below hb11 (Nat.le_refl _)).up hb11.size
      clear hb11
      obtain ⟨x, okN, hN⟩ : ∃ r o, numberFromF xm km = (r, o) := ⟨_, _, rfl⟩
      have HN := Lib.hid hN
      clear hN
      go_wp2_with fail
      refine (impl_NumberFrom_any _ _ _ _ _ _ hm).mono ?_
      rw [HN.out]
      rintro e w12 ⟨rfl, hb12⟩
      replace hB := hB.trans (hb12.mono hB.size)
      replace h0 := (h0.below hb12 (Nat.le_refl _)).up hb12.size
      replace h1 := (h1.below hb12 (Nat.le_refl _)).up hb12.size
      replace hk := (hk.below hb12 (Nat.le_refl _)).up hb12.size
      replace hbb := (hbb.below hb12 (Nat.le_refl _)).up hb12.size
      replace hs := (hs.below hb12 (Nat.le_refl _)).up hb12.size
      replace ht := (ht.below hb12 (Nat.le_refl _)).up hb12.size
      replace hz := (hz.below hb12 (Nat.le_refl _)).up hb12.size
      replace ho := (ho.below hb12 (Nat.le_refl _)).up hb12.size
      replace hp := (hp.below hb12 (Nat.le_refl _)).up hb12.size
      replace hq := (hq.below hb12 (Nat.le_refl _)).up hb12.size
      replace hm := (hm.below hb12 (Nat.le_refl _)).up hb12.size
      clear hb12
      go_wp2_with fail
      refine (spec_NumberFrom_any _ _ _ _ _ _ hm).mono ?_
      rw [HN.out]
      rintro e w13 ⟨rfl, hb13⟩
      replace hB := hB.trans (hb13.mono hB.size)
      replace h0 := (h0.below hb13 (Nat.le_refl _)).up hb13.size
      replace h1 := (h1.below hb13 (Nat.le_refl _)).up hb13.size
      replace hk := (hk.below hb13 (Nat.le_refl _)).up hb13.size
      replace hbb := (hbb.below hb13 (Nat.le_refl _)).up hb13.size
      replace hs := (hs.below hb13 (Nat.le_refl _)).up hb13.size
      replace ht := (ht.below hb13 (Nat.le_refl _)).up hb13.size
      replace hz := (hz.below hb13 (Nat.le_refl _)).up hb13.size
      replace ho := (ho.below hb13 (Nat.le_refl _)).up hb13.size
      replace hp := (hp.below hb13 (Nat.le_refl _)).up hb13.size
      replace hq := (hq.below hb13 (Nat.le_refl _)).up hb13.size
      replace hm := (hm.below hb13 (Nat.le_refl _)).up hb13.size
      clear hb13
      cases okN
      · skip
        go_wp2_with fail
        refine (DrawBitsFrom_any _ _ _ _ _ h1).mono ?_
        rintro e w14 ⟨xf, bf, nf, cf, kf, rfl, hf, hnf, _, _, hb14⟩
        replace hB := hB.trans (hb14.mono hB.size)
        replace h0 := (h0.below hb14 (Nat.le_refl _)).up hb14.size
        replace h1 := (h1.below hb14 (Nat.le_refl _)).up hb14.size
        replace hk := (hk.below hb14 (Nat.le_refl _)).up hb14.size
        replace hbb := (hbb.below hb14 (Nat.le_refl _)).up hb14.size
        replace hs := (hs.below hb14 (Nat.le_refl _)).up hb14.size
        replace ht := (ht.below hb14 (Nat.le_refl _)).up hb14.size
        replace hz := (hz.below hb14 (Nat.le_refl _)).up hb14.size
        replace ho := (ho.below hb14 (Nat.le_refl _)).up hb14.size
        replace hp := (hp.below hb14 (Nat.le_refl _)).up hb14.size
        replace hq := (hq.below hb14 (Nat.le_refl _)).up hb14.size
        replace hm := (hm.below hb14 (Nat.le_refl _)).up hb14.size
        clear hb14
        obtain ⟨lf, okF, hF⟩ : ∃ r o, bitsFromF xf kf = (r, o) := ⟨_, _, rfl⟩
        have HF := Lib.hid hF
        clear hF
        go_wp2_with fail
        refine (impl_BitsFrom_any _ _ _ _ _ _ hf).mono ?_
        rw [HF.out]
        rintro e w15 ⟨bou, nou, cou, rfl, ou, hb15⟩
        replace hB := hB.trans (hb15.mono hB.size)
        replace h0 := (h0.below hb15 (Nat.le_refl _)).up hb15.size
        replace h1 := (h1.below hb15 (Nat.le_refl _)).up hb15.size
        replace hk := (hk.below hb15 (Nat.le_refl _)).up hb15.size
        replace hbb := (hbb.below hb15 (Nat.le_refl _)).up hb15.size
        replace hs := (hs.below hb15 (Nat.le_refl _)).up hb15.size
        replace ht := (ht.below hb15 (Nat.le_refl _)).up hb15.size
        replace hz := (hz.below hb15 (Nat.le_refl _)).up hb15.size
        replace ho := (ho.below hb15 (Nat.le_refl _)).up hb15.size
        replace hp := (hp.below hb15 (Nat.le_refl _)).up hb15.size
        replace hq := (hq.below hb15 (Nat.le_refl _)).up hb15.size
        replace hm := (hm.below hb15 (Nat.le_refl _)).up hb15.size
        replace hf := (hf.below hb15 (Nat.le_refl _)).up hb15.size
        clear hb15
        have hu := ou.ints
        clear ou
        go_wp2_with fail
        refine (spec_BitsFrom_any _ _ _ _ _ _ hf).mono ?_
        rw [HF.out]
        rintro e w16 ⟨bov, nov, cov, rfl, ov, hb16⟩
        replace hB := hB.trans (hb16.mono hB.size)
        replace h0 := (h0.below hb16 (Nat.le_refl _)).up hb16.size
        replace h1 := (h1.below hb16 (Nat.le_refl _)).up hb16.size
        replace hk := (hk.below hb16 (Nat.le_refl _)).up hb16.size
        replace hbb := (hbb.below hb16 (Nat.le_refl _)).up hb16.size
        replace hs := (hs.below hb16 (Nat.le_refl _)).up hb16.size
        replace ht := (ht.below hb16 (Nat.le_refl _)).up hb16.size
        replace hz := (hz.below hb16 (Nat.le_refl _)).up hb16.size
        replace ho := (ho.below hb16 (Nat.le_refl _)).up hb16.size
        replace hp := (hp.below hb16 (Nat.le_refl _)).up hb16.size
        replace hq := (hq.below hb16 (Nat.le_refl _)).up hb16.size
        replace hm := (hm.below hb16 (Nat.le_refl _)).up hb16.size
        replace hf := (hf.below hb16 (Nat.le_refl _)).up hb16.size
        replace hu := (hu.below hb16 (Nat.le_refl _)).up hb16.size
        clear hb16
        have hv := ov.ints
        clear ov
        cases okF
        · skip
          go_wp2_with fail
          refine (sameInts_any _ _ _ _ _ _ _ _ _ _ _ hu hv (Nat.le_refl _) (Nat.le_refl _)).mono ?_
          rintro e w17 ⟨rfl, hb17⟩
          rw [eqB_self]
          replace hB := hB.trans (hb17.mono hB.size)
          replace h0 := (h0.below hb17 (Nat.le_refl _)).up hb17.size
          replace h1 := (h1.below hb17 (Nat.le_refl _)).up hb17.size
          replace hk := (hk.below hb17 (Nat.le_refl _)).up hb17.size
          replace hbb := (hbb.below hb17 (Nat.le_refl _)).up hb17.size
          replace hs := (hs.below hb17 (Nat.le_refl _)).up hb17.size
          replace ht := (ht.below hb17 (Nat.le_refl _)).up hb17.size
          replace hz := (hz.below hb17 (Nat.le_refl _)).up hb17.size
          replace ho := (ho.below hb17 (Nat.le_refl _)).up hb17.size
          replace hp := (hp.below hb17 (Nat.le_refl _)).up hb17.size
          replace hq := (hq.below hb17 (Nat.le_refl _)).up hb17.size
          replace hm := (hm.below hb17 (Nat.le_refl _)).up hb17.size
          replace hf := (hf.below hb17 (Nat.le_refl _)).up hb17.size
          replace hu := (hu.below hb17 (Nat.le_refl _)).up hb17.size
          replace hv := (hv.below hb17 (Nat.le_refl _)).up hb17.size
          clear hb17
          go_wp2_with fail
          go_ret
          exact ⟨rfl, hB⟩
        · skip
          go_wp2_with fail
          refine (sameInts_any _ _ _ _ _ _ _ _ _ _ _ hu hv (Nat.le_refl _) (Nat.le_refl _)).mono ?_
          rintro e w17 ⟨rfl, hb17⟩
          rw [eqB_self]
          replace hB := hB.trans (hb17.mono hB.size)
          replace h0 := (h0.below hb17 (Nat.le_refl _)).up hb17.size
          replace h1 := (h1.below hb17 (Nat.le_refl _)).up hb17.size
          replace hk := (hk.below hb17 (Nat.le_refl _)).up hb17.size
          replace hbb := (hbb.below hb17 (Nat.le_refl _)).up hb17.size
          replace hs := (hs.below hb17 (Nat.le_refl _)).up hb17.size
          replace ht := (ht.below hb17 (Nat.le_refl _)).up hb17.size
          replace hz := (hz.below hb17 (Nat.le_refl _)).up hb17.size
          replace ho := (ho.below hb17 (Nat.le_refl _)).up hb17.size
          replace hp := (hp.below hb17 (Nat.le_refl _)).up hb17.size
          replace hq := (hq.below hb17 (Nat.le_refl _)).up hb17.size
          replace hm := (hm.below hb17 (Nat.le_refl _)).up hb17.size
          replace hf := (hf.below hb17 (Nat.le_refl _)).up hb17.size
          replace hu := (hu.below hb17 (Nat.le_refl _)).up hb17.size
          replace hv := (hv.below hb17 (Nat.le_refl _)).up hb17.size
          clear hb17
          go_wp2_with fail
          go_ret
          exact ⟨rfl, hB⟩
      · skip
        obtain ⟨hxa, hxb⟩ := number_back HN.out
        go_wp2_with fail
        refine (DrawBitsFrom_any _ _ _ _ _ h1).mono ?_
        rintro e w14 ⟨xf, bf, nf, cf, kf, rfl, hf, hnf, _, _, hb14⟩
        replace hB := hB.trans (hb14.mono hB.size)
        replace h0 := (h0.below hb14 (Nat.le_refl _)).up hb14.size
        replace h1 := (h1.below hb14 (Nat.le_refl _)).up hb14.size
        replace hk := (hk.below hb14 (Nat.le_refl _)).up hb14.size
        replace hbb := (hbb.below hb14 (Nat.le_refl _)).up hb14.size
        replace hs := (hs.below hb14 (Nat.le_refl _)).up hb14.size
        replace ht := (ht.below hb14 (Nat.le_refl _)).up hb14.size
        replace hz := (hz.below hb14 (Nat.le_refl _)).up hb14.size
        replace ho := (ho.below hb14 (Nat.le_refl _)).up hb14.size
        replace hp := (hp.below hb14 (Nat.le_refl _)).up hb14.size
        replace hq := (hq.below hb14 (Nat.le_refl _)).up hb14.size
        replace hm := (hm.below hb14 (Nat.le_refl _)).up hb14.size
        clear hb14
        obtain ⟨lf, okF, hF⟩ : ∃ r o, bitsFromF xf kf = (r, o) := ⟨_, _, rfl⟩
        have HF := Lib.hid hF
        clear hF
        go_wp2_with fail
        refine (impl_BitsFrom_any _ _ _ _ _ _ hf).mono ?_
        rw [HF.out]
        rintro e w15 ⟨bou, nou, cou, rfl, ou, hb15⟩
        replace hB := hB.trans (hb15.mono hB.size)
        replace h0 := (h0.below hb15 (Nat.le_refl _)).up hb15.size
        replace h1 := (h1.below hb15 (Nat.le_refl _)).up hb15.size
        replace hk := (hk.below hb15 (Nat.le_refl _)).up hb15.size
        replace hbb := (hbb.below hb15 (Nat.le_refl _)).up hb15.size
        replace hs := (hs.below hb15 (Nat.le_refl _)).up hb15.size
        replace ht := (ht.below hb15 (Nat.le_refl _)).up hb15.size
        replace hz := (hz.below hb15 (Nat.le_refl _)).up hb15.size
        replace ho := (ho.below hb15 (Nat.le_refl _)).up hb15.size
        replace hp := (hp.below hb15 (Nat.le_refl _)).up hb15.size
        replace hq := (hq.below hb15 (Nat.le_refl _)).up hb15.size
        replace hm := (hm.below hb15 (Nat.le_refl _)).up hb15.size
        replace hf := (hf.below hb15 (Nat.le_refl _)).up hb15.size
        clear hb15
        have hu := ou.ints
        clear ou
        go_wp2_with fail
        refine (spec_BitsFrom_any _ _ _ _ _ _ hf).mono ?_
        rw [HF.out]
        rintro e w16 ⟨bov, nov, cov, rfl, ov, hb16⟩
        replace hB := hB.trans (hb16.mono hB.size)
        replace h0 := (h0.below hb16 (Nat.le_refl _)).up hb16.size
        replace h1 := (h1.below hb16 (Nat.le_refl _)).up hb16.size
        replace hk := (hk.below hb16 (Nat.le_refl _)).up hb16.size
        replace hbb := (hbb.below hb16 (Nat.le_refl _)).up hb16.size
        replace hs := (hs.below hb16 (Nat.le_refl _)).up hb16.size
        replace ht := (ht.below hb16 (Nat.le_refl _)).up hb16.size
        replace hz := (hz.below hb16 (Nat.le_refl _)).up hb16.size
        replace ho := (ho.below hb16 (Nat.le_refl _)).up hb16.size
        replace hp := (hp.below hb16 (Nat.le_refl _)).up hb16.size
        replace hq := (hq.below hb16 (Nat.le_refl _)).up hb16.size
        replace hm := (hm.below hb16 (Nat.le_refl _)).up hb16.size
        replace hf := (hf.below hb16 (Nat.le_refl _)).up hb16.size
        replace hu := (hu.below hb16 (Nat.le_refl _)).up hb16.size
        clear hb16
        have hv := ov.ints
        clear ov
        cases okF
        · skip
          go_wp2_with fail
          refine (sameInts_any _ _ _ _ _ _ _ _ _ _ _ hu hv (Nat.le_refl _) (Nat.le_refl _)).mono ?_
          rintro e w17 ⟨rfl, hb17⟩
          rw [eqB_self]
          replace hB := hB.trans (hb17.mono hB.size)
          replace h0 := (h0.below hb17 (Nat.le_refl _)).up hb17.size
          replace h1 := (h1.below hb17 (Nat.le_refl _)).up hb17.size
          replace hk := (hk.below hb17 (Nat.le_refl _)).up hb17.size
          replace hbb := (hbb.below hb17 (Nat.le_refl _)).up hb17.size
          replace hs := (hs.below hb17 (Nat.le_refl _)).up hb17.size
          replace ht := (ht.below hb17 (Nat.le_refl _)).up hb17.size
          replace hz := (hz.below hb17 (Nat.le_refl _)).up hb17.size
          replace ho := (ho.below hb17 (Nat.le_refl _)).up hb17.size
          replace hp := (hp.below hb17 (Nat.le_refl _)).up hb17.size
          replace hq := (hq.below hb17 (Nat.le_refl _)).up hb17.size
          replace hm := (hm.below hb17 (Nat.le_refl _)).up hb17.size
          replace hf := (hf.below hb17 (Nat.le_refl _)).up hb17.size
          replace hu := (hu.below hb17 (Nat.le_refl _)).up hb17.size
          replace hv := (hv.below hb17 (Nat.le_refl _)).up hb17.size
          clear hb17
          go_wp2_with fail
          go_ret
          exact ⟨rfl, hB⟩
        · skip
          go_wp2_with fail
          refine (sameInts_any _ _ _ _ _ _ _ _ _ _ _ hu hv (Nat.le_refl _) (Nat.le_refl _)).mono ?_
          rintro e w17 ⟨rfl, hb17⟩
          rw [eqB_self]
          replace hB := hB.trans (hb17.mono hB.size)
          replace h0 := (h0.below hb17 (Nat.le_refl _)).up hb17.size
          replace h1 := (h1.below hb17 (Nat.le_refl _)).up hb17.size
          replace hk := (hk.below hb17 (Nat.le_refl _)).up hb17.size
          replace hbb := (hbb.below hb17 (Nat.le_refl _)).up hb17.size
          replace hs := (hs.below hb17 (Nat.le_refl _)).up hb17.size
          replace ht := (ht.below hb17 (Nat.le_refl _)).up hb17.size
          replace hz := (hz.below hb17 (Nat.le_refl _)).up hb17.size
          replace ho := (ho.below hb17 (Nat.le_refl _)).up hb17.size
          replace hp := (hp.below hb17 (Nat.le_refl _)).up hb17.size
          replace hq := (hq.below hb17 (Nat.le_refl _)).up hb17.size
          replace hm := (hm.below hb17 (Nat.le_refl _)).up hb17.size
          replace hf := (hf.below hb17 (Nat.le_refl _)).up hb17.size
          replace hu := (hu.below hb17 (Nat.le_refl _)).up hb17.size
          replace hv := (hv.below hb17 (Nat.le_refl _)).up hb17.size
          clear hb17
          go_wp2_with fail
          go_ret
          exact ⟨rfl, hB⟩
    · skip
      obtain ⟨hm0, hm40, hin⟩ := order_back HO.out
      have HIN := Lib.hid hin
      clear hin
      go_wp2_with fail
      go_loop [19] (fun i => ∃ k : Nat, (k : Int) ≤ mo ∧ i = .int .i64 k) (fun i => 40 - (intOf i).toNat)
      case atStart => exact ⟨0, by omega, rfl⟩
      case round =>
        obtain ⟨k, hkm, rfl⟩ := hrel
        by_cases hlt : (k : Int) < mo
        · have hin1 : inL (k : Int) l = true := by unfold inL; exact decide_eq_true (HIN.out k hlt)
          go_wp2_with fail
          refine (pIn_any _ _ _ _ _ _ _ hq).mono ?_
          rintro e w' ⟨rfl, rfl⟩
          rw [hin1]
          go_wp2_with fail
          go_round
          case rel => exact ⟨k + 1, by omega, by go_num⟩
          case measure => simp [intOf] <;> omega
        · skip
          go_wp2_with fail
          refine (DrawNumberFrom_any _ _ _ _ _ h1).mono ?_
          rintro e w11 ⟨xm, bm, nm, cm, km, rfl, hm, hnm, _, _, hb11⟩
          replace hB := hB.trans (hb11.mono hB.size)
          replace h0 := (h0.below hb11 (Nat.le_refl _)).up hb11.size
          replace h1 := (h1.below hb11 (Nat.le_refl _)).up hb11.size
          replace hk := (hk.below hb11 (Nat.le_refl _)).up hb11.size
          replace hbb := (hbb.below hb11 (Nat.le_refl _)).up hb11.size
          replace hs := (hs.below hb11 (Nat.le_refl _)).up hb11.size
          replace ht := (ht.below hb11 (Nat.le_refl _)).up hb11.size
          replace hz := (hz.below hb11 (Nat.le_refl _)).up hb11.size
          replace ho := (ho.below hb11 (Nat.le_refl _)).up hb11.size
          replace hp := (hp.below hb11 (Nat.le_refl _)).up hb11.size
          replace hq := (hq.below hb11 (Nat.le_refl _)).up hb11.size
          clear hb11
          obtain ⟨x, okN, hN⟩ : ∃ r o, numberFromF xm km = (r, o) := ⟨_, _, rfl⟩
          have HN := Lib.hid hN
          clear hN
          go_wp2_with fail
          refine (impl_NumberFrom_any _ _ _ _ _ _ hm).mono ?_
          rw [HN.out]
          rintro e w12 ⟨rfl, hb12⟩
          replace hB := hB.trans (hb12.mono hB.size)
          replace h0 := (h0.below hb12 (Nat.le_refl _)).up hb12.size
          replace h1 := (h1.below hb12 (Nat.le_refl _)).up hb12.size
          replace hk := (hk.below hb12 (Nat.le_refl _)).up hb12.size
          replace hbb := (hbb.below hb12 (Nat.le_refl _)).up hb12.size
          replace hs := (hs.below hb12 (Nat.le_refl _)).up hb12.size
          replace ht := (ht.below hb12 (Nat.le_refl _)).up hb12.size
          replace hz := (hz.below hb12 (Nat.le_refl _)).up hb12.size
          replace ho := (ho.below hb12 (Nat.le_refl _)).up hb12.size
          replace hp := (hp.below hb12 (Nat.le_refl _)).up hb12.size
          replace hq := (hq.below hb12 (Nat.le_refl _)).up hb12.size
          replace hm := (hm.below hb12 (Nat.le_refl _)).up hb12.size
          clear hb12
          go_wp2_with fail
          refine (spec_NumberFrom_any _ _ _ _ _ _ hm).mono ?_
          rw [HN.out]
          rintro e w13 ⟨rfl, hb13⟩
          replace hB := hB.trans (hb13.mono hB.size)
          replace h0 := (h0.below hb13 (Nat.le_refl _)).up hb13.size
          replace h1 := (h1.below hb13 (Nat.le_refl _)).up hb13.size
          replace hk := (hk.below hb13 (Nat.le_refl _)).up hb13.size
          replace hbb := (hbb.below hb13 (Nat.le_refl _)).up hb13.size
          replace hs := (hs.below hb13 (Nat.le_refl _)).up hb13.size
          replace ht := (ht.below hb13 (Nat.le_refl _)).up hb13.size
          replace hz := (hz.below hb13 (Nat.le_refl _)).up hb13.size
          replace ho := (ho.below hb13 (Nat.le_refl _)).up hb13.size
          replace hp := (hp.below hb13 (Nat.le_refl _)).up hb13.size
          replace hq := (hq.below hb13 (Nat.le_refl _)).up hb13.size
          replace hm := (hm.below hb13 (Nat.le_refl _)).up hb13.size
          clear hb13
          cases okN
          · skip
            go_wp2_with fail
            refine (DrawBitsFrom_any _ _ _ _ _ h1).mono ?_
            rintro e w14 ⟨xf, bf, nf, cf, kf, rfl, hf, hnf, _, _, hb14⟩
            replace hB := hB.trans (hb14.mono hB.size)
            replace h0 := (h0.below hb14 (Nat.le_refl _)).up hb14.size
            replace h1 := (h1.below hb14 (Nat.le_refl _)).up hb14.size
            replace hk := (hk.below hb14 (Nat.le_refl _)).up hb14.size
            replace hbb := (hbb.below hb14 (Nat.le_refl _)).up hb14.size
            replace hs := (hs.below hb14 (Nat.le_refl _)).up hb14.size
            replace ht := (ht.below hb14 (Nat.le_refl _)).up hb14.size
            replace hz := (hz.below hb14 (Nat.le_refl _)).up hb14.size
            replace ho := (ho.below hb14 (Nat.le_refl _)).up hb14.size
            replace hp := (hp.below hb14 (Nat.le_refl _)).up hb14.size
            replace hq := (hq.below hb14 (Nat.le_refl _)).up hb14.size
            replace hm := (hm.below hb14 (Nat.le_refl _)).up hb14.size
            clear hb14
            obtain ⟨lf, okF, hF⟩ : ∃ r o, bitsFromF xf kf = (r, o) := ⟨_, _, rfl⟩
            have HF := Lib.hid hF
            clear hF
            go_wp2_with fail
            refine (impl_BitsFrom_any _ _ _ _ _ _ hf).mono ?_
            rw [HF.out]
            rintro e w15 ⟨bou, nou, cou, rfl, ou, hb15⟩
            replace hB := hB.trans (hb15.mono hB.size)
            replace h0 := (h0.below hb15 (Nat.le_refl _)).up hb15.size
            replace h1 := (h1.below hb15 (Nat.le_refl _)).up hb15.size
            replace hk := (hk.below hb15 (Nat.le_refl _)).up hb15.size
            replace hbb := (hbb.below hb15 (Nat.le_refl _)).up hb15.size
            replace hs := (hs.below hb15 (Nat.le_refl _)).up hb15.size
            replace ht := (ht.below hb15 (Nat.le_refl _)).up hb15.size
            replace hz := (hz.below hb15 (Nat.le_refl _)).up hb15.size
            replace ho := (ho.below hb15 (Nat.le_refl _)).up hb15.size
            replace hp := (hp.below hb15 (Nat.le_refl _)).up hb15.size
            replace hq := (hq.below hb15 (Nat.le_refl _)).up hb15.size
            replace hm := (hm.below hb15 (Nat.le_refl _)).up hb15.size
            replace hf := (hf.below hb15 (Nat.le_refl _)).up hb15.size
            clear hb15
            have hu := ou.ints
            clear ou
            go_wp2_with fail
            refine (spec_BitsFrom_any _ _ _ _ _ _ hf).mono ?_
            rw [HF.out]
            rintro e w16 ⟨bov, nov, cov, rfl, ov, hb16⟩
            replace hB := hB.trans (hb16.mono hB.size)
            replace h0 := (h0.below hb16 (Nat.le_refl _)).up hb16.size
            replace h1 := (h1.below hb16 (Nat.le_refl _)).up hb16.size
            replace hk := (hk.below hb16 (Nat.le_refl _)).up hb16.size
            replace hbb := (hbb.below hb16 (Nat.le_refl _)).up hb16.size
            replace hs := (hs.below hb16 (Nat.le_refl _)).up hb16.size
            replace ht := (ht.below hb16 (Nat.le_refl _)).up hb16.size
            replace hz := (hz.below hb16 (Nat.le_refl _)).up hb16.size
            replace ho := (ho.below hb16 (Nat.le_refl _)).up hb16.size
            replace hp := (hp.below hb16 (Nat.le_refl _)).up hb16.size
            replace hq := (hq.below hb16 (Nat.le_refl _)).up hb16.size
            replace hm := (hm.below hb16 (Nat.le_refl _)).up hb16.size
            replace hf := (hf.below hb16 (Nat.le_refl _)).up hb16.size
            replace hu := (hu.below hb16 (Nat.le_refl _)).up hb16.size
            clear hb16
            have hv := ov.ints
            clear ov
            cases okF
            · skip
              go_wp2_with fail
              refine (sameInts_any _ _ _ _ _ _ _ _ _ _ _ hu hv (Nat.le_refl _) (Nat.le_refl _)).mono ?_
              rintro e w17 ⟨rfl, hb17⟩
              rw [eqB_self]
              replace hB := hB.trans (hb17.mono hB.size)
              replace h0 := (h0.below hb17 (Nat.le_refl _)).up hb17.size
              replace h1 := (h1.below hb17 (Nat.le_refl _)).up hb17.size
              replace hk := (hk.below hb17 (Nat.le_refl _)).up hb17.size
              replace hbb := (hbb.below hb17 (Nat.le_refl _)).up hb17.size
              replace hs := (hs.below hb17 (Nat.le_refl _)).up hb17.size
              replace ht := (ht.below hb17 (Nat.le_refl _)).up hb17.size
              replace hz := (hz.below hb17 (Nat.le_refl _)).up hb17.size
              replace ho := (ho.below hb17 (Nat.le_refl _)).up hb17.size
              replace hp := (hp.below hb17 (Nat.le_refl _)).up hb17.size
              replace hq := (hq.below hb17 (Nat.le_refl _)).up hb17.size
              replace hm := (hm.below hb17 (Nat.le_refl _)).up hb17.size
              replace hf := (hf.below hb17 (Nat.le_refl _)).up hb17.size
              replace hu := (hu.below hb17 (Nat.le_refl _)).up hb17.size
              replace hv := (hv.below hb17 (Nat.le_refl _)).up hb17.size
              clear hb17
              go_wp2_with fail
              go_ret
              exact ⟨rfl, hB⟩
            · skip
              go_wp2_with fail
              refine (sameInts_any _ _ _ _ _ _ _ _ _ _ _ hu hv (Nat.le_refl _) (Nat.le_refl _)).mono ?_
              rintro e w17 ⟨rfl, hb17⟩
              rw [eqB_self]
              replace hB := hB.trans (hb17.mono hB.size)
              replace h0 := (h0.below hb17 (Nat.le_refl _)).up hb17.size
              replace h1 := (h1.below hb17 (Nat.le_refl _)).up hb17.size
              replace hk := (hk.below hb17 (Nat.le_refl _)).up hb17.size
              replace hbb := (hbb.below hb17 (Nat.le_refl _)).up hb17.size
              replace hs := (hs.below hb17 (Nat.le_refl _)).up hb17.size
              replace ht := (ht.below hb17 (Nat.le_refl _)).up hb17.size
              replace hz := (hz.below hb17 (Nat.le_refl _)).up hb17.size
              replace ho := (ho.below hb17 (Nat.le_refl _)).up hb17.size
              replace hp := (hp.below hb17 (Nat.le_refl _)).up hb17.size
              replace hq := (hq.below hb17 (Nat.le_refl _)).up hb17.size
              replace hm := (hm.below hb17 (Nat.le_refl _)).up hb17.size
              replace hf := (hf.below hb17 (Nat.le_refl _)).up hb17.size
              replace hu := (hu.below hb17 (Nat.le_refl _)).up hb17.size
              replace hv := (hv.below hb17 (Nat.le_refl _)).up hb17.size
              clear hb17
              go_wp2_with fail
              go_ret
              exact ⟨rfl, hB⟩
          · skip
            obtain ⟨hxa, hxb⟩ := number_back HN.out
            go_wp2_with fail
            refine (DrawBitsFrom_any _ _ _ _ _ h1).mono ?_
            rintro e w14 ⟨xf, bf, nf, cf, kf, rfl, hf, hnf, _, _, hb14⟩
            replace hB := hB.trans (hb14.mono hB.size)
            replace h0 := (h0.below hb14 (Nat.le_refl _)).up hb14.size
            replace h1 := (h1.below hb14 (Nat.le_refl _)).up hb14.size
            replace hk := (hk.below hb14 (Nat.le_refl _)).up hb14.size
            replace hbb := (hbb.below hb14 (Nat.le_refl _)).up hb14.size
            replace hs := (hs.below hb14 (Nat.le_refl _)).up hb14.size
            replace ht := (ht.below hb14 (Nat.le_refl _)).up hb14.size
            replace hz := (hz.below hb14 (Nat.le_refl _)).up hb14.size
            replace ho := (ho.below hb14 (Nat.le_refl _)).up hb14.size
            replace hp := (hp.below hb14 (Nat.le_refl _)).up hb14.size
            replace hq := (hq.below hb14 (Nat.le_refl _)).up hb14.size
            replace hm := (hm.below hb14 (Nat.le_refl _)).up hb14.size
            clear hb14
            obtain ⟨lf, okF, hF⟩ : ∃ r o, bitsFromF xf kf = (r, o) := ⟨_, _, rfl⟩
            have HF := Lib.hid hF
            clear hF
            go_wp2_with fail
            refine (impl_BitsFrom_any _ _ _ _ _ _ hf).mono ?_
            rw [HF.out]
            rintro e w15 ⟨bou, nou, cou, rfl, ou, hb15⟩
            replace hB := hB.trans (hb15.mono hB.size)
            replace h0 := (h0.below hb15 (Nat.le_refl _)).up hb15.size
            replace h1 := (h1.below hb15 (Nat.le_refl _)).up hb15.size
            replace hk := (hk.below hb15 (Nat.le_refl _)).up hb15.size
            replace hbb := (hbb.below hb15 (Nat.le_refl _)).up hb15.size
            replace hs := (hs.below hb15 (Nat.le_refl _)).up hb15.size
            replace ht := (ht.below hb15 (Nat.le_refl _)).up hb15.size
            replace hz := (hz.below hb15 (Nat.le_refl _)).up hb15.size
            replace ho := (ho.below hb15 (Nat.le_refl _)).up hb15.size
            replace hp := (hp.below hb15 (Nat.le_refl _)).up hb15.size
            replace hq := (hq.below hb15 (Nat.le_refl _)).up hb15.size
            replace hm := (hm.below hb15 (Nat.le_refl _)).up hb15.size
            replace hf := (hf.below hb15 (Nat.le_refl _)).up hb15.size
            clear hb15
            have hu := ou.ints
            clear ou
            go_wp2_with fail
            refine (spec_BitsFrom_any _ _ _ _ _ _ hf).mono ?_
            rw [HF.out]
            rintro e w16 ⟨bov, nov, cov, rfl, ov, hb16⟩
            replace hB := hB.trans (hb16.mono hB.size)
            replace h0 := (h0.below hb16 (Nat.le_refl _)).up hb16.size
            replace h1 := (h1.below hb16 (Nat.le_refl _)).up hb16.size
            replace hk := (hk.below hb16 (Nat.le_refl _)).up hb16.size
            replace hbb := (hbb.below hb16 (Nat.le_refl _)).up hb16.size
            replace hs := (hs.below hb16 (Nat.le_refl _)).up hb16.size
            replace ht := (ht.below hb16 (Nat.le_refl _)).up hb16.size
            replace hz := (hz.below hb16 (Nat.le_refl _)).up hb16.size
            replace ho := (ho.below hb16 (Nat.le_refl _)).up hb16.size
            replace hp := (hp.below hb16 (Nat.le_refl _)).up hb16.size
            replace hq := (hq.below hb16 (Nat.le_refl _)).up hb16.size
            replace hm := (hm.below hb16 (Nat.le_refl _)).up hb16.size
            replace hf := (hf.below hb16 (Nat.le_refl _)).up hb16.size
            replace hu := (hu.below hb16 (Nat.le_refl _)).up hb16.size
            clear hb16
            have hv := ov.ints
            clear ov
            cases okF
            · skip
              go_wp2_with fail
              refine (sameInts_any _ _ _ _ _ _ _ _ _ _ _ hu hv (Nat.le_refl _) (Nat.le_refl _)).mono ?_
              rintro e w17 ⟨rfl, hb17⟩
              rw [eqB_self]
              replace hB := hB.trans (hb17.mono hB.size)
              replace h0 := (h0.below hb17 (Nat.le_refl _)).up hb17.size
              replace h1 := (h1.below hb17 (Nat.le_refl _)).up hb17.size
              replace hk := (hk.below hb17 (Nat.le_refl _)).up hb17.size
              replace hbb := (hbb.below hb17 (Nat.le_refl _)).up hb17.size
              replace hs := (hs.below hb17 (Nat.le_refl _)).up hb17.size
              replace ht := (ht.below hb17 (Nat.le_refl _)).up hb17.size
              replace hz := (hz.below hb17 (Nat.le_refl _)).up hb17.size
              replace ho := (ho.below hb17 (Nat.le_refl _)).up hb17.size
              replace hp := (hp.below hb17 (Nat.le_refl _)).up hb17.size
              replace hq := (hq.below hb17 (Nat.le_refl _)).up hb17.size
              replace hm := (hm.below hb17 (Nat.le_refl _)).up hb17.size
              replace hf := (hf.below hb17 (Nat.le_refl _)).up hb17.size
              replace hu := (hu.below hb17 (Nat.le_refl _)).up hb17.size
              replace hv := (hv.below hb17 (Nat.le_refl _)).up hb17.size
              clear hb17
              go_wp2_with fail
              go_ret
              exact ⟨rfl, hB⟩
            · skip
              go_wp2_with fail
              refine (sameInts_any _ _ _ _ _ _ _ _ _ _ _ hu hv (Nat.le_refl _) (Nat.le_refl _)).mono ?_
              rintro e w17 ⟨rfl, hb17⟩
              rw [eqB_self]
              replace hB := hB.trans (hb17.mono hB.size)
              replace h0 := (h0.below hb17 (Nat.le_refl _)).up hb17.size
              replace h1 := (h1.below hb17 (Nat.le_refl _)).up hb17.size
              replace hk := (hk.below hb17 (Nat.le_refl _)).up hb17.size
              replace hbb := (hbb.below hb17 (Nat.le_refl _)).up hb17.size
              replace hs := (hs.below hb17 (Nat.le_refl _)).up hb17.size
              replace ht := (ht.below hb17 (Nat.le_refl _)).up hb17.size
              replace hz := (hz.below hb17 (Nat.le_refl _)).up hb17.size
              replace ho := (ho.below hb17 (Nat.le_refl _)).up hb17.size
              replace hp := (hp.below hb17 (Nat.le_refl _)).up hb17.size
              replace hq := (hq.below hb17 (Nat.le_refl _)).up hb17.size
              replace hm := (hm.below hb17 (Nat.le_refl _)).up hb17.size
              replace hf := (hf.below hb17 (Nat.le_refl _)).up hb17.size
              replace hu := (hu.below hb17 (Nat.le_refl _)).up hb17.size
              replace hv := (hv.below hb17 (Nat.le_refl _)).up hb17.size
              clear hb17
              go_wp2_with fail
              go_ret
              exact ⟨rfl, hB⟩
end Go.Proofs.Ytnpndpmelgfmbaa
