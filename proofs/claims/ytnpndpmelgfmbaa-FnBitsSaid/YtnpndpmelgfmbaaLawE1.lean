/-
  The law on bits: its walk (printed by gen_draw.py).
-/
import Derived.Test.YtnpndpmelgfmbaaLh1
namespace Go.Proofs.Ytnpndpmelgfmbaa
open Go.RowKit
set_option linter.unusedVariables false
set_option linter.unusedSimpArgs false

theorem turn_bits {t u : List Int} {k : Int} (h : turnBitsF t k = (u, true)) : allIn 0 1 t = true := by
  unfold turnBitsF at h
  split at h
  · rename_i hc
    rw [Bool.and_eq_true] at hc
    exact (goodB_iff.1 hc.1).2
  · simp at h
theorem pow_wrap {n : Nat} (h : n ≤ 16) {p : Int} (hp : p = 2 ^ n) : 0 < p ∧ wrap64 (2 ^ n) = p := by
  have h1 := pow_le_16 h
  have h2 : (0 : Int) < 2 ^ n := Int.pow_pos (by decide)
  rw [← hp] at h1 h2 ⊢
  rw [wrap64]
  omega
set_option maxRecDepth 100000 in
set_option maxHeartbeats 20000000 in
theorem walk_FnBits (a0 : Option Addr) (n0 c0 : Nat) (z0 : List Int) (a1 : Option Addr) (n1 c1 : Nat) (z1 : List Int) (w0 : World) (hA0 : BytesArg w0 a0 n0 z0) (hA1 : BytesArg w0 a1 n1 z1) : Calls Try.prog 4 #[.slice a0 n0 c0, .slice a1 n1 c1] w0 (RetB true w0) := by
  cases hbig : bigF n0 n1
  rotate_left
  · go_enter Try.func4, Try.ntmps4
    go_wp2_with fail
    refine (big_any _ _ _ _ _ _ _ hA0.2.1 hA1.2.1).mono ?_
    rintro e w' ⟨rfl, rfl⟩
    rw [hbig]
    go_wp2_with fail
    go_ret
    exact ⟨rfl, Below.refl _ _⟩
  obtain ⟨g0, g1⟩ := bigF_no hbig
  have h0 := hA0.bytes g0
  have h1 := hA1.bytes g1
  have hm0 := hA0.2.1
  have hm1 := hA1.2.1
  clear hA0 hA1
  have hB : Below w0.heap.size w0 w0 := Below.refl _ _
  go_enter Try.func4, Try.ntmps4
  go_wp2_with fail
  refine (big_any _ _ _ _ _ _ _ hm0 hm1).mono ?_
  rintro e w' ⟨rfl, rfl⟩
  rw [hbig]
  go_wp2_with fail
  refine (DrawNumberOf_any _ _ _ _ _ h0).mono ?_
  rintro e w1 ⟨xs, bx, nx, cx, rfl, hx, hnx, hb1⟩
  replace hB := hB.trans (hb1.mono hB.size)
  replace h0 := (h0.below hb1 (Nat.le_refl _)).up hb1.size
  replace h1 := (h1.below hb1 (Nat.le_refl _)).up hb1.size
  clear hb1
  obtain ⟨vA, hvA⟩ : ∃ v, v = goodB xs 64 := ⟨_, rfl⟩
  have HVA := Lib.hid hvA
  clear hvA
  have hlx := Lib.hid hx.1
  cases hgood : goodB xs 16
  · skip
    have HN := Lib.hid (numberOfF_no hgood)
    clear hgood
    go_wp2_with fail
    refine (impl_NumberOf_any _ _ _ _ _ hx).mono ?_
    rw [HN.out]
    rintro e w2 ⟨rfl, hb2⟩
    replace hB := hB.trans (hb2.mono hB.size)
    replace h0 := (h0.below hb2 (Nat.le_refl _)).up hb2.size
    replace h1 := (h1.below hb2 (Nat.le_refl _)).up hb2.size
    replace hx := (hx.below hb2 (Nat.le_refl _)).up hb2.size
    clear hb2
    go_wp2_with fail
    refine (spec_NumberOf_any _ _ _ _ _ _ hx).mono ?_
    rw [HN.out]
    rintro e w3 ⟨rfl, hb3⟩
    replace hB := hB.trans (hb3.mono hB.size)
    replace h0 := (h0.below hb3 (Nat.le_refl _)).up hb3.size
    replace h1 := (h1.below hb3 (Nat.le_refl _)).up hb3.size
    replace hx := (hx.below hb3 (Nat.le_refl _)).up hb3.size
    clear hb3
    go_wp2_with fail
    refine (impl_AreBits_any _ _ _ _ _ hx).mono ?_
    rw [← HVA.out]
    rintro e w4 ⟨rfl, hb4⟩
    replace hB := hB.trans (hb4.mono hB.size)
    replace h0 := (h0.below hb4 (Nat.le_refl _)).up hb4.size
    replace h1 := (h1.below hb4 (Nat.le_refl _)).up hb4.size
    replace hx := (hx.below hb4 (Nat.le_refl _)).up hb4.size
    clear hb4
    go_wp2_with fail
    refine (spec_AreBits_any _ _ _ _ _ _ hx).mono ?_
    rintro e w' ⟨rfl, rfl⟩
    rw [← HVA.out]
    go_wp2_with fail
    refine (DrawXorBits_any _ _ _ _ _ h1).mono ?_
    rintro e w5 ⟨xa, ba, na, ca, xb, bb, nb, cb, rfl, ha, hna, hbb, hnb, hb5⟩
    replace hB := hB.trans (hb5.mono hB.size)
    replace h0 := (h0.below hb5 (Nat.le_refl _)).up hb5.size
    replace h1 := (h1.below hb5 (Nat.le_refl _)).up hb5.size
    replace hx := (hx.below hb5 (Nat.le_refl _)).up hb5.size
    clear hb5
    obtain ⟨ds, okX, hX⟩ : ∃ r o, xorBitsF xa xb = (r, o) := ⟨_, _, rfl⟩
    have HX := Lib.hid hX
    clear hX
    go_wp2_with fail
    refine (impl_XorBits_any _ _ _ _ _ _ _ _ _ ha hbb).mono ?_
    rw [HX.out]
    rintro e w6 ⟨bod, nod, cod, rfl, od, hb6⟩
    replace hB := hB.trans (hb6.mono hB.size)
    replace h0 := (h0.below hb6 (Nat.le_refl _)).up hb6.size
    replace h1 := (h1.below hb6 (Nat.le_refl _)).up hb6.size
    replace hx := (hx.below hb6 (Nat.le_refl _)).up hb6.size
    replace ha := (ha.below hb6 (Nat.le_refl _)).up hb6.size
    replace hbb := (hbb.below hb6 (Nat.le_refl _)).up hb6.size
    clear hb6
    have hd := od.ints
    clear od
    go_wp2_with fail
    refine (spec_XorBits_any _ _ _ _ _ _ _ _ _ ha hbb).mono ?_
    rw [HX.out]
    rintro e w7 ⟨bof, nof, cof, rfl, of, hb7⟩
    replace hB := hB.trans (hb7.mono hB.size)
    replace h0 := (h0.below hb7 (Nat.le_refl _)).up hb7.size
    replace h1 := (h1.below hb7 (Nat.le_refl _)).up hb7.size
    replace hx := (hx.below hb7 (Nat.le_refl _)).up hb7.size
    replace ha := (ha.below hb7 (Nat.le_refl _)).up hb7.size
    replace hbb := (hbb.below hb7 (Nat.le_refl _)).up hb7.size
    replace hd := (hd.below hb7 (Nat.le_refl _)).up hb7.size
    clear hb7
    have hf := of.ints
    clear of
    go_wp2_with fail
    refine (sameInts_any _ _ _ _ _ _ _ _ _ _ _ hd hf (Nat.le_refl _) (Nat.le_refl _)).mono ?_
    rintro e w8 ⟨rfl, hb8⟩
    rw [eqB_self]
    replace hB := hB.trans (hb8.mono hB.size)
    replace h0 := (h0.below hb8 (Nat.le_refl _)).up hb8.size
    replace h1 := (h1.below hb8 (Nat.le_refl _)).up hb8.size
    replace hx := (hx.below hb8 (Nat.le_refl _)).up hb8.size
    replace ha := (ha.below hb8 (Nat.le_refl _)).up hb8.size
    replace hbb := (hbb.below hb8 (Nat.le_refl _)).up hb8.size
    replace hd := (hd.below hb8 (Nat.le_refl _)).up hb8.size
    replace hf := (hf.below hb8 (Nat.le_refl _)).up hb8.size
    clear hb8
    cases okX
    · skip
      go_wp2_with fail
      refine (DrawTurnBits_any _ _ _ _ _ h1).mono ?_
      rintro e w9 ⟨zs, bt, nt, ct, k, rfl, ht, hnt, hk0, hk1, hb9⟩
      replace hB := hB.trans (hb9.mono hB.size)
      replace h0 := (h0.below hb9 (Nat.le_refl _)).up hb9.size
      replace h1 := (h1.below hb9 (Nat.le_refl _)).up hb9.size
      replace hx := (hx.below hb9 (Nat.le_refl _)).up hb9.size
      replace ha := (ha.below hb9 (Nat.le_refl _)).up hb9.size
      replace hbb := (hbb.below hb9 (Nat.le_refl _)).up hb9.size
      replace hd := (hd.below hb9 (Nat.le_refl _)).up hb9.size
      replace hf := (hf.below hb9 (Nat.le_refl _)).up hb9.size
      clear hb9
      obtain ⟨us, okT, hT⟩ : ∃ r o, turnBitsF zs k = (r, o) := ⟨_, _, rfl⟩
      have HT := Lib.hid hT
      clear hT
      go_wp2_with fail
      refine (impl_TurnBits_any _ _ _ _ _ _ ht).mono ?_
      rw [HT.out]
      rintro e w10 ⟨bou, nou, cou, rfl, ou, hb10⟩
      replace hB := hB.trans (hb10.mono hB.size)
      replace h0 := (h0.below hb10 (Nat.le_refl _)).up hb10.size
      replace h1 := (h1.below hb10 (Nat.le_refl _)).up hb10.size
      replace hx := (hx.below hb10 (Nat.le_refl _)).up hb10.size
      replace ha := (ha.below hb10 (Nat.le_refl _)).up hb10.size
      replace hbb := (hbb.below hb10 (Nat.le_refl _)).up hb10.size
      replace hd := (hd.below hb10 (Nat.le_refl _)).up hb10.size
      replace hf := (hf.below hb10 (Nat.le_refl _)).up hb10.size
      replace ht := (ht.below hb10 (Nat.le_refl _)).up hb10.size
      clear hb10
      have hu := ou.ints
      clear ou
      go_wp2_with fail
      refine (spec_TurnBits_any _ _ _ _ _ _ ht).mono ?_
      rw [HT.out]
      rintro e w11 ⟨bov, nov, cov, rfl, ov, hb11⟩
      replace hB := hB.trans (hb11.mono hB.size)
      replace h0 := (h0.below hb11 (Nat.le_refl _)).up hb11.size
      replace h1 := (h1.below hb11 (Nat.le_refl _)).up hb11.size
      replace hx := (hx.below hb11 (Nat.le_refl _)).up hb11.size
      replace ha := (ha.below hb11 (Nat.le_refl _)).up hb11.size
      replace hbb := (hbb.below hb11 (Nat.le_refl _)).up hb11.size
      replace hd := (hd.below hb11 (Nat.le_refl _)).up hb11.size
      replace hf := (hf.below hb11 (Nat.le_refl _)).up hb11.size
      replace ht := (ht.below hb11 (Nat.le_refl _)).up hb11.size
      replace hu := (hu.below hb11 (Nat.le_refl _)).up hb11.size
      clear hb11
      have hv := ov.ints
      clear ov
      go_wp2_with fail
      refine (sameInts_any _ _ _ _ _ _ _ _ _ _ _ hu hv (Nat.le_refl _) (Nat.le_refl _)).mono ?_
      rintro e w12 ⟨rfl, hb12⟩
      rw [eqB_self]
      replace hB := hB.trans (hb12.mono hB.size)
      replace h0 := (h0.below hb12 (Nat.le_refl _)).up hb12.size
      replace h1 := (h1.below hb12 (Nat.le_refl _)).up hb12.size
      replace hx := (hx.below hb12 (Nat.le_refl _)).up hb12.size
      replace ha := (ha.below hb12 (Nat.le_refl _)).up hb12.size
      replace hbb := (hbb.below hb12 (Nat.le_refl _)).up hb12.size
      replace hd := (hd.below hb12 (Nat.le_refl _)).up hb12.size
      replace hf := (hf.below hb12 (Nat.le_refl _)).up hb12.size
      replace ht := (ht.below hb12 (Nat.le_refl _)).up hb12.size
      replace hu := (hu.below hb12 (Nat.le_refl _)).up hb12.size
      replace hv := (hv.below hb12 (Nat.le_refl _)).up hb12.size
      clear hb12
      cases okT
      · skip
        go_wp2_with fail
        go_ret
        exact ⟨rfl, hB⟩
      · skip
        obtain ⟨e1, e2, e3, hka, hkb⟩ := turn_back HT.out
        have E1 := Lib.hid e1
        have E2 := Lib.hid e2
        have E3 := Lib.hid e3
        clear e1 e2 e3
        have hg : allIn 0 1 zs = true := turn_bits HT.out
        have HG := Lib.hid hg
        clear hg
        obtain ⟨sm, hsm⟩ : ∃ q, q = sumL zs := ⟨_, rfl⟩
        have HSM := Lib.hid hsm
        clear hsm
        go_wp2_with fail
        refine (impl_WeightOf_any _ _ _ _ _ ht).mono ?_
        rw [E1.out, ← HSM.out]
        rintro e w13 ⟨rfl, hb13⟩
        replace hB := hB.trans (hb13.mono hB.size)
        replace h0 := (h0.below hb13 (Nat.le_refl _)).up hb13.size
        replace h1 := (h1.below hb13 (Nat.le_refl _)).up hb13.size
        replace hx := (hx.below hb13 (Nat.le_refl _)).up hb13.size
        replace ha := (ha.below hb13 (Nat.le_refl _)).up hb13.size
        replace hbb := (hbb.below hb13 (Nat.le_refl _)).up hb13.size
        replace hd := (hd.below hb13 (Nat.le_refl _)).up hb13.size
        replace hf := (hf.below hb13 (Nat.le_refl _)).up hb13.size
        replace ht := (ht.below hb13 (Nat.le_refl _)).up hb13.size
        replace hu := (hu.below hb13 (Nat.le_refl _)).up hb13.size
        replace hv := (hv.below hb13 (Nat.le_refl _)).up hb13.size
        clear hb13
        go_wp2_with fail
        refine (impl_WeightOf_any _ _ _ _ _ hu).mono ?_
        rw [E2.out, ← HSM.out]
        rintro e w14 ⟨rfl, hb14⟩
        replace hB := hB.trans (hb14.mono hB.size)
        replace h0 := (h0.below hb14 (Nat.le_refl _)).up hb14.size
        replace h1 := (h1.below hb14 (Nat.le_refl _)).up hb14.size
        replace hx := (hx.below hb14 (Nat.le_refl _)).up hb14.size
        replace ha := (ha.below hb14 (Nat.le_refl _)).up hb14.size
        replace hbb := (hbb.below hb14 (Nat.le_refl _)).up hb14.size
        replace hd := (hd.below hb14 (Nat.le_refl _)).up hb14.size
        replace hf := (hf.below hb14 (Nat.le_refl _)).up hb14.size
        replace ht := (ht.below hb14 (Nat.le_refl _)).up hb14.size
        replace hu := (hu.below hb14 (Nat.le_refl _)).up hb14.size
        replace hv := (hv.below hb14 (Nat.le_refl _)).up hb14.size
        clear hb14
        go_wp2_with fail
        refine (impl_TurnBits_any _ _ _ _ _ _ hu).mono ?_
        rw [E3.out]
        rintro e w15 ⟨boq, noq, coq, rfl, oq, hb15⟩
        replace hB := hB.trans (hb15.mono hB.size)
        replace h0 := (h0.below hb15 (Nat.le_refl _)).up hb15.size
        replace h1 := (h1.below hb15 (Nat.le_refl _)).up hb15.size
        replace hx := (hx.below hb15 (Nat.le_refl _)).up hb15.size
        replace ha := (ha.below hb15 (Nat.le_refl _)).up hb15.size
        replace hbb := (hbb.below hb15 (Nat.le_refl _)).up hb15.size
        replace hd := (hd.below hb15 (Nat.le_refl _)).up hb15.size
        replace hf := (hf.below hb15 (Nat.le_refl _)).up hb15.size
        replace ht := (ht.below hb15 (Nat.le_refl _)).up hb15.size
        replace hu := (hu.below hb15 (Nat.le_refl _)).up hb15.size
        replace hv := (hv.below hb15 (Nat.le_refl _)).up hb15.size
        clear hb15
        have hq := oq.ints
        clear oq
        go_wp2_with fail
        refine (pSum_any _ _ _ _ _ _ ht HG.out).mono ?_
        rintro e w' ⟨rfl, rfl⟩
        rw [← HSM.out]
        go_wp2_with fail
        refine (sameInts_any _ _ _ _ _ _ _ _ _ _ _ hq ht (Nat.le_refl _) (Nat.le_refl _)).mono ?_
        rintro e w16 ⟨rfl, hb16⟩
        rw [eqB_self]
        replace hB := hB.trans (hb16.mono hB.size)
        replace h0 := (h0.below hb16 (Nat.le_refl _)).up hb16.size
        replace h1 := (h1.below hb16 (Nat.le_refl _)).up hb16.size
        replace hx := (hx.below hb16 (Nat.le_refl _)).up hb16.size
        replace ha := (ha.below hb16 (Nat.le_refl _)).up hb16.size
        replace hbb := (hbb.below hb16 (Nat.le_refl _)).up hb16.size
        replace hd := (hd.below hb16 (Nat.le_refl _)).up hb16.size
        replace hf := (hf.below hb16 (Nat.le_refl _)).up hb16.size
        replace ht := (ht.below hb16 (Nat.le_refl _)).up hb16.size
        replace hu := (hu.below hb16 (Nat.le_refl _)).up hb16.size
        replace hv := (hv.below hb16 (Nat.le_refl _)).up hb16.size
        replace hq := (hq.below hb16 (Nat.le_refl _)).up hb16.size
        clear hb16
        go_wp2_with fail
        go_ret
        exact ⟨rfl, hB⟩
    · skip
      have HY := Lib.hid (xor_back HX.out)
      go_wp2_with fail
      refine (impl_XorBits_any _ _ _ _ _ _ _ _ _ hd hbb).mono ?_
      rw [HY.out]
      rintro e w9 ⟨bog, nog, cog, rfl, og, hb9⟩
      replace hB := hB.trans (hb9.mono hB.size)
      replace h0 := (h0.below hb9 (Nat.le_refl _)).up hb9.size
      replace h1 := (h1.below hb9 (Nat.le_refl _)).up hb9.size
      replace hx := (hx.below hb9 (Nat.le_refl _)).up hb9.size
      replace ha := (ha.below hb9 (Nat.le_refl _)).up hb9.size
      replace hbb := (hbb.below hb9 (Nat.le_refl _)).up hb9.size
      replace hd := (hd.below hb9 (Nat.le_refl _)).up hb9.size
      replace hf := (hf.below hb9 (Nat.le_refl _)).up hb9.size
      clear hb9
      have hg := og.ints
      clear og
      go_wp2_with fail
      refine (sameInts_any _ _ _ _ _ _ _ _ _ _ _ hg ha (Nat.le_refl _) (Nat.le_refl _)).mono ?_
      rintro e w10 ⟨rfl, hb10⟩
      rw [eqB_self]
      replace hB := hB.trans (hb10.mono hB.size)
      replace h0 := (h0.below hb10 (Nat.le_refl _)).up hb10.size
      replace h1 := (h1.below hb10 (Nat.le_refl _)).up hb10.size
      replace hx := (hx.below hb10 (Nat.le_refl _)).up hb10.size
      replace ha := (ha.below hb10 (Nat.le_refl _)).up hb10.size
      replace hbb := (hbb.below hb10 (Nat.le_refl _)).up hb10.size
      replace hd := (hd.below hb10 (Nat.le_refl _)).up hb10.size
      replace hf := (hf.below hb10 (Nat.le_refl _)).up hb10.size
      replace hg := (hg.below hb10 (Nat.le_refl _)).up hb10.size
      clear hb10
      go_wp2_with fail
      refine (DrawTurnBits_any _ _ _ _ _ h1).mono ?_
      rintro e w11 ⟨zs, bt, nt, ct, k, rfl, ht, hnt, hk0, hk1, hb11⟩
      replace hB := hB.trans (hb11.mono hB.size)
      replace h0 := (h0.below hb11 (Nat.le_refl _)).up hb11.size
      replace h1 := (h1.below hb11 (Nat.le_refl _)).up hb11.size
      replace hx := (hx.below hb11 (Nat.le_refl _)).up hb11.size
      replace ha := (ha.below hb11 (Nat.le_refl _)).up hb11.size
      replace hbb := (hbb.below hb11 (Nat.le_refl _)).up hb11.size
      replace hd := (hd.below hb11 (Nat.le_refl _)).up hb11.size
      replace hf := (hf.below hb11 (Nat.le_refl _)).up hb11.size
      replace hg := (hg.below hb11 (Nat.le_refl _)).up hb11.size
      clear hb11
      obtain ⟨us, okT, hT⟩ : ∃ r o, turnBitsF zs k = (r, o) := ⟨_, _, rfl⟩
      have HT := Lib.hid hT
      clear hT
      go_wp2_with fail
      refine (impl_TurnBits_any _ _ _ _ _ _ ht).mono ?_
      rw [HT.out]
      rintro e w12 ⟨bou, nou, cou, rfl, ou, hb12⟩
      replace hB := hB.trans (hb12.mono hB.size)
      replace h0 := (h0.below hb12 (Nat.le_refl _)).up hb12.size
      replace h1 := (h1.below hb12 (Nat.le_refl _)).up hb12.size
      replace hx := (hx.below hb12 (Nat.le_refl _)).up hb12.size
      replace ha := (ha.below hb12 (Nat.le_refl _)).up hb12.size
      replace hbb := (hbb.below hb12 (Nat.le_refl _)).up hb12.size
      replace hd := (hd.below hb12 (Nat.le_refl _)).up hb12.size
      replace hf := (hf.below hb12 (Nat.le_refl _)).up hb12.size
      replace hg := (hg.below hb12 (Nat.le_refl _)).up hb12.size
      replace ht := (ht.below hb12 (Nat.le_refl _)).up hb12.size
      clear hb12
      have hu := ou.ints
      clear ou
      go_wp2_with fail
      refine (spec_TurnBits_any _ _ _ _ _ _ ht).mono ?_
      rw [HT.out]
      rintro e w13 ⟨bov, nov, cov, rfl, ov, hb13⟩
      replace hB := hB.trans (hb13.mono hB.size)
      replace h0 := (h0.below hb13 (Nat.le_refl _)).up hb13.size
      replace h1 := (h1.below hb13 (Nat.le_refl _)).up hb13.size
      replace hx := (hx.below hb13 (Nat.le_refl _)).up hb13.size
      replace ha := (ha.below hb13 (Nat.le_refl _)).up hb13.size
      replace hbb := (hbb.below hb13 (Nat.le_refl _)).up hb13.size
      replace hd := (hd.below hb13 (Nat.le_refl _)).up hb13.size
      replace hf := (hf.below hb13 (Nat.le_refl _)).up hb13.size
      replace hg := (hg.below hb13 (Nat.le_refl _)).up hb13.size
      replace ht := (ht.below hb13 (Nat.le_refl _)).up hb13.size
      replace hu := (hu.below hb13 (Nat.le_refl _)).up hb13.size
      clear hb13
      have hv := ov.ints
      clear ov
      go_wp2_with fail
      refine (sameInts_any _ _ _ _ _ _ _ _ _ _ _ hu hv (Nat.le_refl _) (Nat.le_refl _)).mono ?_
      rintro e w14 ⟨rfl, hb14⟩
      rw [eqB_self]
      replace hB := hB.trans (hb14.mono hB.size)
      replace h0 := (h0.below hb14 (Nat.le_refl _)).up hb14.size
      replace h1 := (h1.below hb14 (Nat.le_refl _)).up hb14.size
      replace hx := (hx.below hb14 (Nat.le_refl _)).up hb14.size
      replace ha := (ha.below hb14 (Nat.le_refl _)).up hb14.size
      replace hbb := (hbb.below hb14 (Nat.le_refl _)).up hb14.size
      replace hd := (hd.below hb14 (Nat.le_refl _)).up hb14.size
      replace hf := (hf.below hb14 (Nat.le_refl _)).up hb14.size
      replace hg := (hg.below hb14 (Nat.le_refl _)).up hb14.size
      replace ht := (ht.below hb14 (Nat.le_refl _)).up hb14.size
      replace hu := (hu.below hb14 (Nat.le_refl _)).up hb14.size
      replace hv := (hv.below hb14 (Nat.le_refl _)).up hb14.size
      clear hb14
      cases okT
      · skip
        go_wp2_with fail
        go_ret
        exact ⟨rfl, hB⟩
      · skip
        obtain ⟨e1, e2, e3, hka, hkb⟩ := turn_back HT.out
        have E1 := Lib.hid e1
        have E2 := Lib.hid e2
        have E3 := Lib.hid e3
        clear e1 e2 e3
        have hg : allIn 0 1 zs = true := turn_bits HT.out
        have HG := Lib.hid hg
        clear hg
        obtain ⟨sm, hsm⟩ : ∃ q, q = sumL zs := ⟨_, rfl⟩
        have HSM := Lib.hid hsm
        clear hsm
        go_wp2_with fail
        refine (impl_WeightOf_any _ _ _ _ _ ht).mono ?_
        rw [E1.out, ← HSM.out]
        rintro e w15 ⟨rfl, hb15⟩
        replace hB := hB.trans (hb15.mono hB.size)
        replace h0 := (h0.below hb15 (Nat.le_refl _)).up hb15.size
        replace h1 := (h1.below hb15 (Nat.le_refl _)).up hb15.size
        replace hx := (hx.below hb15 (Nat.le_refl _)).up hb15.size
        replace ha := (ha.below hb15 (Nat.le_refl _)).up hb15.size
        replace hbb := (hbb.below hb15 (Nat.le_refl _)).up hb15.size
        replace hd := (hd.below hb15 (Nat.le_refl _)).up hb15.size
        replace hf := (hf.below hb15 (Nat.le_refl _)).up hb15.size
        replace hg := (hg.below hb15 (Nat.le_refl _)).up hb15.size
        replace ht := (ht.below hb15 (Nat.le_refl _)).up hb15.size
        replace hu := (hu.below hb15 (Nat.le_refl _)).up hb15.size
        replace hv := (hv.below hb15 (Nat.le_refl _)).up hb15.size
        clear hb15
        go_wp2_with fail
        refine (impl_WeightOf_any _ _ _ _ _ hu).mono ?_
        rw [E2.out, ← HSM.out]
        rintro e w16 ⟨rfl, hb16⟩
        replace hB := hB.trans (hb16.mono hB.size)
        replace h0 := (h0.below hb16 (Nat.le_refl _)).up hb16.size
        replace h1 := (h1.below hb16 (Nat.le_refl _)).up hb16.size
        replace hx := (hx.below hb16 (Nat.le_refl _)).up hb16.size
        replace ha := (ha.below hb16 (Nat.le_refl _)).up hb16.size
        replace hbb := (hbb.below hb16 (Nat.le_refl _)).up hb16.size
        replace hd := (hd.below hb16 (Nat.le_refl _)).up hb16.size
        replace hf := (hf.below hb16 (Nat.le_refl _)).up hb16.size
        replace hg := (hg.below hb16 (Nat.le_refl _)).up hb16.size
        replace ht := (ht.below hb16 (Nat.le_refl _)).up hb16.size
        replace hu := (hu.below hb16 (Nat.le_refl _)).up hb16.size
        replace hv := (hv.below hb16 (Nat.le_refl _)).up hb16.size
        clear hb16
        go_wp2_with fail
        refine (impl_TurnBits_any _ _ _ _ _ _ hu).mono ?_
        rw [E3.out]
        rintro e w17 ⟨boq, noq, coq, rfl, oq, hb17⟩
        replace hB := hB.trans (hb17.mono hB.size)
        replace h0 := (h0.below hb17 (Nat.le_refl _)).up hb17.size
        replace h1 := (h1.below hb17 (Nat.le_refl _)).up hb17.size
        replace hx := (hx.below hb17 (Nat.le_refl _)).up hb17.size
        replace ha := (ha.below hb17 (Nat.le_refl _)).up hb17.size
        replace hbb := (hbb.below hb17 (Nat.le_refl _)).up hb17.size
        replace hd := (hd.below hb17 (Nat.le_refl _)).up hb17.size
        replace hf := (hf.below hb17 (Nat.le_refl _)).up hb17.size
        replace hg := (hg.below hb17 (Nat.le_refl _)).up hb17.size
        replace ht := (ht.below hb17 (Nat.le_refl _)).up hb17.size
        replace hu := (hu.below hb17 (Nat.le_refl _)).up hb17.size
        replace hv := (hv.below hb17 (Nat.le_refl _)).up hb17.size
        clear hb17
        have hq := oq.ints
        clear oq
        go_wp2_with fail
        refine (pSum_any _ _ _ _ _ _ ht HG.out).mono ?_
        rintro e w' ⟨rfl, rfl⟩
        rw [← HSM.out]
        go_wp2_with fail
        refine (sameInts_any _ _ _ _ _ _ _ _ _ _ _ hq ht (Nat.le_refl _) (Nat.le_refl _)).mono ?_
        rintro e w18 ⟨rfl, hb18⟩
        rw [eqB_self]
        replace hB := hB.trans (hb18.mono hB.size)
        replace h0 := (h0.below hb18 (Nat.le_refl _)).up hb18.size
        replace h1 := (h1.below hb18 (Nat.le_refl _)).up hb18.size
        replace hx := (hx.below hb18 (Nat.le_refl _)).up hb18.size
        replace ha := (ha.below hb18 (Nat.le_refl _)).up hb18.size
        replace hbb := (hbb.below hb18 (Nat.le_refl _)).up hb18.size
        replace hd := (hd.below hb18 (Nat.le_refl _)).up hb18.size
        replace hf := (hf.below hb18 (Nat.le_refl _)).up hb18.size
        replace hg := (hg.below hb18 (Nat.le_refl _)).up hb18.size
        replace ht := (ht.below hb18 (Nat.le_refl _)).up hb18.size
        replace hu := (hu.below hb18 (Nat.le_refl _)).up hb18.size
        replace hv := (hv.below hb18 (Nat.le_refl _)).up hb18.size
        replace hq := (hq.below hb18 (Nat.le_refl _)).up hb18.size
        clear hb18
        go_wp2_with fail
        go_ret
        exact ⟨rfl, hB⟩
  · skip
    obtain ⟨v, hv⟩ : ∃ v, v = numL xs := ⟨_, rfl⟩
    have hn1 := numberOfF_yes hgood
    rw [← hv] at hn1
    have HN := Lib.hid hn1
    clear hn1
    have hn2 := bits_back hgood
    rw [← hv, hlx.out] at hn2
    have HK := Lib.hid hn2
    clear hn2
    have hn16 : nx ≤ 16 := by have := (goodB_iff.1 hgood).1; rw [hlx.out] at this; omega
    by_cases h00 : xs = []
    · skip
      have HS := Lib.hid (signedF_no h00)
      clear h00 hgood hv
      go_wp2_with fail
      refine (impl_NumberOf_any _ _ _ _ _ hx).mono ?_
      rw [HN.out]
      rintro e w2 ⟨rfl, hb2⟩
      replace hB := hB.trans (hb2.mono hB.size)
      replace h0 := (h0.below hb2 (Nat.le_refl _)).up hb2.size
      replace h1 := (h1.below hb2 (Nat.le_refl _)).up hb2.size
      replace hx := (hx.below hb2 (Nat.le_refl _)).up hb2.size
      clear hb2
      go_wp2_with fail
      refine (spec_NumberOf_any _ _ _ _ _ _ hx).mono ?_
      rw [HN.out]
      rintro e w3 ⟨rfl, hb3⟩
      replace hB := hB.trans (hb3.mono hB.size)
      replace h0 := (h0.below hb3 (Nat.le_refl _)).up hb3.size
      replace h1 := (h1.below hb3 (Nat.le_refl _)).up hb3.size
      replace hx := (hx.below hb3 (Nat.le_refl _)).up hb3.size
      clear hb3
      go_wp2_with fail
      refine (impl_AreBits_any _ _ _ _ _ hx).mono ?_
      rw [← HVA.out]
      rintro e w4 ⟨rfl, hb4⟩
      replace hB := hB.trans (hb4.mono hB.size)
      replace h0 := (h0.below hb4 (Nat.le_refl _)).up hb4.size
      replace h1 := (h1.below hb4 (Nat.le_refl _)).up hb4.size
      replace hx := (hx.below hb4 (Nat.le_refl _)).up hb4.size
      clear hb4
      go_wp2_with fail
      refine (spec_AreBits_any _ _ _ _ _ _ hx).mono ?_
      rintro e w' ⟨rfl, rfl⟩
      rw [← HVA.out]
      go_wp2_with fail
      refine (impl_BitsOf_any _ _ _).mono ?_
      rw [HK.out]
      rintro e w5 ⟨boy, noy, coy, rfl, oy, hb5⟩
      replace hB := hB.trans (hb5.mono hB.size)
      replace h0 := (h0.below hb5 (Nat.le_refl _)).up hb5.size
      replace h1 := (h1.below hb5 (Nat.le_refl _)).up hb5.size
      replace hx := (hx.below hb5 (Nat.le_refl _)).up hb5.size
      clear hb5
      have hy := oy.ints
      clear oy
      go_wp2_with fail
      refine (sameInts_any _ _ _ _ _ _ _ _ _ _ _ hy hx (Nat.le_refl _) (Nat.le_refl _)).mono ?_
      rintro e w6 ⟨rfl, hb6⟩
      rw [eqB_self]
      replace hB := hB.trans (hb6.mono hB.size)
      replace h0 := (h0.below hb6 (Nat.le_refl _)).up hb6.size
      replace h1 := (h1.below hb6 (Nat.le_refl _)).up hb6.size
      replace hx := (hx.below hb6 (Nat.le_refl _)).up hb6.size
      replace hy := (hy.below hb6 (Nat.le_refl _)).up hb6.size
      clear hb6
      go_wp2_with fail
      refine (impl_SignedOf_any _ _ _ _ _ hx).mono ?_
      rw [HS.out]
      rintro e w7 ⟨rfl, hb7⟩
      replace hB := hB.trans (hb7.mono hB.size)
      replace h0 := (h0.below hb7 (Nat.le_refl _)).up hb7.size
      replace h1 := (h1.below hb7 (Nat.le_refl _)).up hb7.size
      replace hx := (hx.below hb7 (Nat.le_refl _)).up hb7.size
      replace hy := (hy.below hb7 (Nat.le_refl _)).up hb7.size
      clear hb7
      go_wp2_with fail
      refine (spec_SignedOf_any _ _ _ _ _ _ hx).mono ?_
      rw [HS.out]
      rintro e w8 ⟨rfl, hb8⟩
      replace hB := hB.trans (hb8.mono hB.size)
      replace h0 := (h0.below hb8 (Nat.le_refl _)).up hb8.size
      replace h1 := (h1.below hb8 (Nat.le_refl _)).up hb8.size
      replace hx := (hx.below hb8 (Nat.le_refl _)).up hb8.size
      replace hy := (hy.below hb8 (Nat.le_refl _)).up hb8.size
      clear hb8
      go_wp2_with fail
      refine (DrawXorBits_any _ _ _ _ _ h1).mono ?_
      rintro e w9 ⟨xa, ba, na, ca, xb, bb, nb, cb, rfl, ha, hna, hbb, hnb, hb9⟩
      replace hB := hB.trans (hb9.mono hB.size)
      replace h0 := (h0.below hb9 (Nat.le_refl _)).up hb9.size
      replace h1 := (h1.below hb9 (Nat.le_refl _)).up hb9.size
      replace hx := (hx.below hb9 (Nat.le_refl _)).up hb9.size
      replace hy := (hy.below hb9 (Nat.le_refl _)).up hb9.size
      clear hb9
      obtain ⟨ds, okX, hX⟩ : ∃ r o, xorBitsF xa xb = (r, o) := ⟨_, _, rfl⟩
      have HX := Lib.hid hX
      clear hX
      go_wp2_with fail
      refine (impl_XorBits_any _ _ _ _ _ _ _ _ _ ha hbb).mono ?_
      rw [HX.out]
      rintro e w10 ⟨bod, nod, cod, rfl, od, hb10⟩
      replace hB := hB.trans (hb10.mono hB.size)
      replace h0 := (h0.below hb10 (Nat.le_refl _)).up hb10.size
      replace h1 := (h1.below hb10 (Nat.le_refl _)).up hb10.size
      replace hx := (hx.below hb10 (Nat.le_refl _)).up hb10.size
      replace hy := (hy.below hb10 (Nat.le_refl _)).up hb10.size
      replace ha := (ha.below hb10 (Nat.le_refl _)).up hb10.size
      replace hbb := (hbb.below hb10 (Nat.le_refl _)).up hb10.size
      clear hb10
      have hd := od.ints
      clear od
      go_wp2_with fail
      refine (spec_XorBits_any _ _ _ _ _ _ _ _ _ ha hbb).mono ?_
      rw [HX.out]
      rintro e w11 ⟨bof, nof, cof, rfl, of, hb11⟩
      replace hB := hB.trans (hb11.mono hB.size)
      replace h0 := (h0.below hb11 (Nat.le_refl _)).up hb11.size
      replace h1 := (h1.below hb11 (Nat.le_refl _)).up hb11.size
      replace hx := (hx.below hb11 (Nat.le_refl _)).up hb11.size
      replace hy := (hy.below hb11 (Nat.le_refl _)).up hb11.size
      replace ha := (ha.below hb11 (Nat.le_refl _)).up hb11.size
      replace hbb := (hbb.below hb11 (Nat.le_refl _)).up hb11.size
      replace hd := (hd.below hb11 (Nat.le_refl _)).up hb11.size
      clear hb11
      have hf := of.ints
      clear of
      go_wp2_with fail
      refine (sameInts_any _ _ _ _ _ _ _ _ _ _ _ hd hf (Nat.le_refl _) (Nat.le_refl _)).mono ?_
      rintro e w12 ⟨rfl, hb12⟩
      rw [eqB_self]
      replace hB := hB.trans (hb12.mono hB.size)
      replace h0 := (h0.below hb12 (Nat.le_refl _)).up hb12.size
      replace h1 := (h1.below hb12 (Nat.le_refl _)).up hb12.size
      replace hx := (hx.below hb12 (Nat.le_refl _)).up hb12.size
      replace hy := (hy.below hb12 (Nat.le_refl _)).up hb12.size
      replace ha := (ha.below hb12 (Nat.le_refl _)).up hb12.size
      replace hbb := (hbb.below hb12 (Nat.le_refl _)).up hb12.size
      replace hd := (hd.below hb12 (Nat.le_refl _)).up hb12.size
      replace hf := (hf.below hb12 (Nat.le_refl _)).up hb12.size
      clear hb12
      cases okX
      · skip
        go_wp2_with fail
        refine (DrawTurnBits_any _ _ _ _ _ h1).mono ?_
        rintro e w13 ⟨zs, bt, nt, ct, k, rfl, ht, hnt, hk0, hk1, hb13⟩
        replace hB := hB.trans (hb13.mono hB.size)
        replace h0 := (h0.below hb13 (Nat.le_refl _)).up hb13.size
        replace h1 := (h1.below hb13 (Nat.le_refl _)).up hb13.size
        replace hx := (hx.below hb13 (Nat.le_refl _)).up hb13.size
        replace hy := (hy.below hb13 (Nat.le_refl _)).up hb13.size
        replace ha := (ha.below hb13 (Nat.le_refl _)).up hb13.size
        replace hbb := (hbb.below hb13 (Nat.le_refl _)).up hb13.size
        replace hd := (hd.below hb13 (Nat.le_refl _)).up hb13.size
        replace hf := (hf.below hb13 (Nat.le_refl _)).up hb13.size
        clear hb13
        obtain ⟨us, okT, hT⟩ : ∃ r o, turnBitsF zs k = (r, o) := ⟨_, _, rfl⟩
        have HT := Lib.hid hT
        clear hT
        go_wp2_with fail
        refine (impl_TurnBits_any _ _ _ _ _ _ ht).mono ?_
        rw [HT.out]
        rintro e w14 ⟨bou, nou, cou, rfl, ou, hb14⟩
        replace hB := hB.trans (hb14.mono hB.size)
        replace h0 := (h0.below hb14 (Nat.le_refl _)).up hb14.size
        replace h1 := (h1.below hb14 (Nat.le_refl _)).up hb14.size
        replace hx := (hx.below hb14 (Nat.le_refl _)).up hb14.size
        replace hy := (hy.below hb14 (Nat.le_refl _)).up hb14.size
        replace ha := (ha.below hb14 (Nat.le_refl _)).up hb14.size
        replace hbb := (hbb.below hb14 (Nat.le_refl _)).up hb14.size
        replace hd := (hd.below hb14 (Nat.le_refl _)).up hb14.size
        replace hf := (hf.below hb14 (Nat.le_refl _)).up hb14.size
        replace ht := (ht.below hb14 (Nat.le_refl _)).up hb14.size
        clear hb14
        have hu := ou.ints
        clear ou
        go_wp2_with fail
        refine (spec_TurnBits_any _ _ _ _ _ _ ht).mono ?_
        rw [HT.out]
        rintro e w15 ⟨bov, nov, cov, rfl, ov, hb15⟩
        replace hB := hB.trans (hb15.mono hB.size)
        replace h0 := (h0.below hb15 (Nat.le_refl _)).up hb15.size
        replace h1 := (h1.below hb15 (Nat.le_refl _)).up hb15.size
        replace hx := (hx.below hb15 (Nat.le_refl _)).up hb15.size
        replace hy := (hy.below hb15 (Nat.le_refl _)).up hb15.size
        replace ha := (ha.below hb15 (Nat.le_refl _)).up hb15.size
        replace hbb := (hbb.below hb15 (Nat.le_refl _)).up hb15.size
        replace hd := (hd.below hb15 (Nat.le_refl _)).up hb15.size
        replace hf := (hf.below hb15 (Nat.le_refl _)).up hb15.size
        replace ht := (ht.below hb15 (Nat.le_refl _)).up hb15.size
        replace hu := (hu.below hb15 (Nat.le_refl _)).up hb15.size
        clear hb15
        have hv := ov.ints
        clear ov
        go_wp2_with fail
        refine (sameInts_any _ _ _ _ _ _ _ _ _ _ _ hu hv (Nat.le_refl _) (Nat.le_refl _)).mono ?_
        rintro e w16 ⟨rfl, hb16⟩
        rw [eqB_self]
        replace hB := hB.trans (hb16.mono hB.size)
        replace h0 := (h0.below hb16 (Nat.le_refl _)).up hb16.size
        replace h1 := (h1.below hb16 (Nat.le_refl _)).up hb16.size
        replace hx := (hx.below hb16 (Nat.le_refl _)).up hb16.size
        replace hy := (hy.below hb16 (Nat.le_refl _)).up hb16.size
        replace ha := (ha.below hb16 (Nat.le_refl _)).up hb16.size
        replace hbb := (hbb.below hb16 (Nat.le_refl _)).up hb16.size
        replace hd := (hd.below hb16 (Nat.le_refl _)).up hb16.size
        replace hf := (hf.below hb16 (Nat.le_refl _)).up hb16.size
        replace ht := (ht.below hb16 (Nat.le_refl _)).up hb16.size
        replace hu := (hu.below hb16 (Nat.le_refl _)).up hb16.size
        replace hv := (hv.below hb16 (Nat.le_refl _)).up hb16.size
        clear hb16
        cases okT
        · skip
          go_wp2_with fail
          go_ret
          exact ⟨rfl, hB⟩
        · skip
          obtain ⟨e1, e2, e3, hka, hkb⟩ := turn_back HT.out
          have E1 := Lib.hid e1
          have E2 := Lib.hid e2
          have E3 := Lib.hid e3
          clear e1 e2 e3
          have hg : allIn 0 1 zs = true := turn_bits HT.out
          have HG := Lib.hid hg
          clear hg
          obtain ⟨sm, hsm⟩ : ∃ q, q = sumL zs := ⟨_, rfl⟩
          have HSM := Lib.hid hsm
          clear hsm
          go_wp2_with fail
          refine (impl_WeightOf_any _ _ _ _ _ ht).mono ?_
          rw [E1.out, ← HSM.out]
          rintro e w17 ⟨rfl, hb17⟩
          replace hB := hB.trans (hb17.mono hB.size)
          replace h0 := (h0.below hb17 (Nat.le_refl _)).up hb17.size
          replace h1 := (h1.below hb17 (Nat.le_refl _)).up hb17.size
          replace hx := (hx.below hb17 (Nat.le_refl _)).up hb17.size
          replace hy := (hy.below hb17 (Nat.le_refl _)).up hb17.size
          replace ha := (ha.below hb17 (Nat.le_refl _)).up hb17.size
          replace hbb := (hbb.below hb17 (Nat.le_refl _)).up hb17.size
          replace hd := (hd.below hb17 (Nat.le_refl _)).up hb17.size
          replace hf := (hf.below hb17 (Nat.le_refl _)).up hb17.size
          replace ht := (ht.below hb17 (Nat.le_refl _)).up hb17.size
          replace hu := (hu.below hb17 (Nat.le_refl _)).up hb17.size
          replace hv := (hv.below hb17 (Nat.le_refl _)).up hb17.size
          clear hb17
          go_wp2_with fail
          refine (impl_WeightOf_any _ _ _ _ _ hu).mono ?_
          rw [E2.out, ← HSM.out]
          rintro e w18 ⟨rfl, hb18⟩
          replace hB := hB.trans (hb18.mono hB.size)
          replace h0 := (h0.below hb18 (Nat.le_refl _)).up hb18.size
          replace h1 := (h1.below hb18 (Nat.le_refl _)).up hb18.size
          replace hx := (hx.below hb18 (Nat.le_refl _)).up hb18.size
          replace hy := (hy.below hb18 (Nat.le_refl _)).up hb18.size
          replace ha := (ha.below hb18 (Nat.le_refl _)).up hb18.size
          replace hbb := (hbb.below hb18 (Nat.le_refl _)).up hb18.size
          replace hd := (hd.below hb18 (Nat.le_refl _)).up hb18.size
          replace hf := (hf.below hb18 (Nat.le_refl _)).up hb18.size
          replace ht := (ht.below hb18 (Nat.le_refl _)).up hb18.size
          replace hu := (hu.below hb18 (Nat.le_refl _)).up hb18.size
          replace hv := (hv.below hb18 (Nat.le_refl _)).up hb18.size
          clear hb18
          go_wp2_with fail
          refine (impl_TurnBits_any _ _ _ _ _ _ hu).mono ?_
          rw [E3.out]
          rintro e w19 ⟨boq, noq, coq, rfl, oq, hb19⟩
          replace hB := hB.trans (hb19.mono hB.size)
          replace h0 := (h0.below hb19 (Nat.le_refl _)).up hb19.size
          replace h1 := (h1.below hb19 (Nat.le_refl _)).up hb19.size
          replace hx := (hx.below hb19 (Nat.le_refl _)).up hb19.size
          replace hy := (hy.below hb19 (Nat.le_refl _)).up hb19.size
          replace ha := (ha.below hb19 (Nat.le_refl _)).up hb19.size
          replace hbb := (hbb.below hb19 (Nat.le_refl _)).up hb19.size
          replace hd := (hd.below hb19 (Nat.le_refl _)).up hb19.size
          replace hf := (hf.below hb19 (Nat.le_refl _)).up hb19.size
          replace ht := (ht.below hb19 (Nat.le_refl _)).up hb19.size
          replace hu := (hu.below hb19 (Nat.le_refl _)).up hb19.size
          replace hv := (hv.below hb19 (Nat.le_refl _)).up hb19.size
          clear hb19
          have hq := oq.ints
          clear oq
          go_wp2_with fail
          refine (pSum_any _ _ _ _ _ _ ht HG.out).mono ?_
          rintro e w' ⟨rfl, rfl⟩
          rw [← HSM.out]
          go_wp2_with fail
          refine (sameInts_any _ _ _ _ _ _ _ _ _ _ _ hq ht (Nat.le_refl _) (Nat.le_refl _)).mono ?_
          rintro e w20 ⟨rfl, hb20⟩
          rw [eqB_self]
          replace hB := hB.trans (hb20.mono hB.size)
          replace h0 := (h0.below hb20 (Nat.le_refl _)).up hb20.size
          replace h1 := (h1.below hb20 (Nat.le_refl _)).up hb20.size
          replace hx := (hx.below hb20 (Nat.le_refl _)).up hb20.size
          replace hy := (hy.below hb20 (Nat.le_refl _)).up hb20.size
          replace ha := (ha.below hb20 (Nat.le_refl _)).up hb20.size
          replace hbb := (hbb.below hb20 (Nat.le_refl _)).up hb20.size
          replace hd := (hd.below hb20 (Nat.le_refl _)).up hb20.size
          replace hf := (hf.below hb20 (Nat.le_refl _)).up hb20.size
          replace ht := (ht.below hb20 (Nat.le_refl _)).up hb20.size
          replace hu := (hu.below hb20 (Nat.le_refl _)).up hb20.size
          replace hv := (hv.below hb20 (Nat.le_refl _)).up hb20.size
          replace hq := (hq.below hb20 (Nat.le_refl _)).up hb20.size
          clear hb20
          go_wp2_with fail
          go_ret
          exact ⟨rfl, hB⟩
      · skip
        have HY := Lib.hid (xor_back HX.out)
        go_wp2_with fail
        refine (impl_XorBits_any _ _ _ _ _ _ _ _ _ hd hbb).mono ?_
        rw [HY.out]
        rintro e w13 ⟨bog, nog, cog, rfl, og, hb13⟩
        replace hB := hB.trans (hb13.mono hB.size)
        replace h0 := (h0.below hb13 (Nat.le_refl _)).up hb13.size
        replace h1 := (h1.below hb13 (Nat.le_refl _)).up hb13.size
        replace hx := (hx.below hb13 (Nat.le_refl _)).up hb13.size
        replace hy := (hy.below hb13 (Nat.le_refl _)).up hb13.size
        replace ha := (ha.below hb13 (Nat.le_refl _)).up hb13.size
        replace hbb := (hbb.below hb13 (Nat.le_refl _)).up hb13.size
        replace hd := (hd.below hb13 (Nat.le_refl _)).up hb13.size
        replace hf := (hf.below hb13 (Nat.le_refl _)).up hb13.size
        clear hb13
        have hg := og.ints
        clear og
        go_wp2_with fail
        refine (sameInts_any _ _ _ _ _ _ _ _ _ _ _ hg ha (Nat.le_refl _) (Nat.le_refl _)).mono ?_
        rintro e w14 ⟨rfl, hb14⟩
        rw [eqB_self]
        replace hB := hB.trans (hb14.mono hB.size)
        replace h0 := (h0.below hb14 (Nat.le_refl _)).up hb14.size
        replace h1 := (h1.below hb14 (Nat.le_refl _)).up hb14.size
        replace hx := (hx.below hb14 (Nat.le_refl _)).up hb14.size
        replace hy := (hy.below hb14 (Nat.le_refl _)).up hb14.size
        replace ha := (ha.below hb14 (Nat.le_refl _)).up hb14.size
        replace hbb := (hbb.below hb14 (Nat.le_refl _)).up hb14.size
        replace hd := (hd.below hb14 (Nat.le_refl _)).up hb14.size
        replace hf := (hf.below hb14 (Nat.le_refl _)).up hb14.size
        replace hg := (hg.below hb14 (Nat.le_refl _)).up hb14.size
        clear hb14
        go_wp2_with fail
        refine (DrawTurnBits_any _ _ _ _ _ h1).mono ?_
        rintro e w15 ⟨zs, bt, nt, ct, k, rfl, ht, hnt, hk0, hk1, hb15⟩
        replace hB := hB.trans (hb15.mono hB.size)
        replace h0 := (h0.below hb15 (Nat.le_refl _)).up hb15.size
        replace h1 := (h1.below hb15 (Nat.le_refl _)).up hb15.size
        replace hx := (hx.below hb15 (Nat.le_refl _)).up hb15.size
        replace hy := (hy.below hb15 (Nat.le_refl _)).up hb15.size
        replace ha := (ha.below hb15 (Nat.le_refl _)).up hb15.size
        replace hbb := (hbb.below hb15 (Nat.le_refl _)).up hb15.size
        replace hd := (hd.below hb15 (Nat.le_refl _)).up hb15.size
        replace hf := (hf.below hb15 (Nat.le_refl _)).up hb15.size
        replace hg := (hg.below hb15 (Nat.le_refl _)).up hb15.size
        clear hb15
        obtain ⟨us, okT, hT⟩ : ∃ r o, turnBitsF zs k = (r, o) := ⟨_, _, rfl⟩
        have HT := Lib.hid hT
        clear hT
        go_wp2_with fail
        refine (impl_TurnBits_any _ _ _ _ _ _ ht).mono ?_
        rw [HT.out]
        rintro e w16 ⟨bou, nou, cou, rfl, ou, hb16⟩
        replace hB := hB.trans (hb16.mono hB.size)
        replace h0 := (h0.below hb16 (Nat.le_refl _)).up hb16.size
        replace h1 := (h1.below hb16 (Nat.le_refl _)).up hb16.size
        replace hx := (hx.below hb16 (Nat.le_refl _)).up hb16.size
        replace hy := (hy.below hb16 (Nat.le_refl _)).up hb16.size
        replace ha := (ha.below hb16 (Nat.le_refl _)).up hb16.size
        replace hbb := (hbb.below hb16 (Nat.le_refl _)).up hb16.size
        replace hd := (hd.below hb16 (Nat.le_refl _)).up hb16.size
        replace hf := (hf.below hb16 (Nat.le_refl _)).up hb16.size
        replace hg := (hg.below hb16 (Nat.le_refl _)).up hb16.size
        replace ht := (ht.below hb16 (Nat.le_refl _)).up hb16.size
        clear hb16
        have hu := ou.ints
        clear ou
        go_wp2_with fail
        refine (spec_TurnBits_any _ _ _ _ _ _ ht).mono ?_
        rw [HT.out]
        rintro e w17 ⟨bov, nov, cov, rfl, ov, hb17⟩
        replace hB := hB.trans (hb17.mono hB.size)
        replace h0 := (h0.below hb17 (Nat.le_refl _)).up hb17.size
        replace h1 := (h1.below hb17 (Nat.le_refl _)).up hb17.size
        replace hx := (hx.below hb17 (Nat.le_refl _)).up hb17.size
        replace hy := (hy.below hb17 (Nat.le_refl _)).up hb17.size
        replace ha := (ha.below hb17 (Nat.le_refl _)).up hb17.size
        replace hbb := (hbb.below hb17 (Nat.le_refl _)).up hb17.size
        replace hd := (hd.below hb17 (Nat.le_refl _)).up hb17.size
        replace hf := (hf.below hb17 (Nat.le_refl _)).up hb17.size
        replace hg := (hg.below hb17 (Nat.le_refl _)).up hb17.size
        replace ht := (ht.below hb17 (Nat.le_refl _)).up hb17.size
        replace hu := (hu.below hb17 (Nat.le_refl _)).up hb17.size
        clear hb17
        have hv := ov.ints
        clear ov
        go_wp2_with fail
        refine (sameInts_any _ _ _ _ _ _ _ _ _ _ _ hu hv (Nat.le_refl _) (Nat.le_refl _)).mono ?_
        rintro e w18 ⟨rfl, hb18⟩
        rw [eqB_self]
        replace hB := hB.trans (hb18.mono hB.size)
        replace h0 := (h0.below hb18 (Nat.le_refl _)).up hb18.size
        replace h1 := (h1.below hb18 (Nat.le_refl _)).up hb18.size
        replace hx := (hx.below hb18 (Nat.le_refl _)).up hb18.size
        replace hy := (hy.below hb18 (Nat.le_refl _)).up hb18.size
        replace ha := (ha.below hb18 (Nat.le_refl _)).up hb18.size
        replace hbb := (hbb.below hb18 (Nat.le_refl _)).up hb18.size
        replace hd := (hd.below hb18 (Nat.le_refl _)).up hb18.size
        replace hf := (hf.below hb18 (Nat.le_refl _)).up hb18.size
        replace hg := (hg.below hb18 (Nat.le_refl _)).up hb18.size
        replace ht := (ht.below hb18 (Nat.le_refl _)).up hb18.size
        replace hu := (hu.below hb18 (Nat.le_refl _)).up hb18.size
        replace hv := (hv.below hb18 (Nat.le_refl _)).up hb18.size
        clear hb18
        cases okT
        · skip
          go_wp2_with fail
          go_ret
          exact ⟨rfl, hB⟩
        · skip
          obtain ⟨e1, e2, e3, hka, hkb⟩ := turn_back HT.out
          have E1 := Lib.hid e1
          have E2 := Lib.hid e2
          have E3 := Lib.hid e3
          clear e1 e2 e3
          have hg : allIn 0 1 zs = true := turn_bits HT.out
          have HG := Lib.hid hg
          clear hg
          obtain ⟨sm, hsm⟩ : ∃ q, q = sumL zs := ⟨_, rfl⟩
          have HSM := Lib.hid hsm
          clear hsm
          go_wp2_with fail
          refine (impl_WeightOf_any _ _ _ _ _ ht).mono ?_
          rw [E1.out, ← HSM.out]
          rintro e w19 ⟨rfl, hb19⟩
          replace hB := hB.trans (hb19.mono hB.size)
          replace h0 := (h0.below hb19 (Nat.le_refl _)).up hb19.size
          replace h1 := (h1.below hb19 (Nat.le_refl _)).up hb19.size
          replace hx := (hx.below hb19 (Nat.le_refl _)).up hb19.size
          replace hy := (hy.below hb19 (Nat.le_refl _)).up hb19.size
          replace ha := (ha.below hb19 (Nat.le_refl _)).up hb19.size
          replace hbb := (hbb.below hb19 (Nat.le_refl _)).up hb19.size
          replace hd := (hd.below hb19 (Nat.le_refl _)).up hb19.size
          replace hf := (hf.below hb19 (Nat.le_refl _)).up hb19.size
          replace hg := (hg.below hb19 (Nat.le_refl _)).up hb19.size
          replace ht := (ht.below hb19 (Nat.le_refl _)).up hb19.size
          replace hu := (hu.below hb19 (Nat.le_refl _)).up hb19.size
          replace hv := (hv.below hb19 (Nat.le_refl _)).up hb19.size
          clear hb19
          go_wp2_with fail
          refine (impl_WeightOf_any _ _ _ _ _ hu).mono ?_
          rw [E2.out, ← HSM.out]
          rintro e w20 ⟨rfl, hb20⟩
          replace hB := hB.trans (hb20.mono hB.size)
          replace h0 := (h0.below hb20 (Nat.le_refl _)).up hb20.size
          replace h1 := (h1.below hb20 (Nat.le_refl _)).up hb20.size
          replace hx := (hx.below hb20 (Nat.le_refl _)).up hb20.size
          replace hy := (hy.below hb20 (Nat.le_refl _)).up hb20.size
          replace ha := (ha.below hb20 (Nat.le_refl _)).up hb20.size
          replace hbb := (hbb.below hb20 (Nat.le_refl _)).up hb20.size
          replace hd := (hd.below hb20 (Nat.le_refl _)).up hb20.size
          replace hf := (hf.below hb20 (Nat.le_refl _)).up hb20.size
          replace hg := (hg.below hb20 (Nat.le_refl _)).up hb20.size
          replace ht := (ht.below hb20 (Nat.le_refl _)).up hb20.size
          replace hu := (hu.below hb20 (Nat.le_refl _)).up hb20.size
          replace hv := (hv.below hb20 (Nat.le_refl _)).up hb20.size
          clear hb20
          go_wp2_with fail
          refine (impl_TurnBits_any _ _ _ _ _ _ hu).mono ?_
          rw [E3.out]
          rintro e w21 ⟨boq, noq, coq, rfl, oq, hb21⟩
          replace hB := hB.trans (hb21.mono hB.size)
          replace h0 := (h0.below hb21 (Nat.le_refl _)).up hb21.size
          replace h1 := (h1.below hb21 (Nat.le_refl _)).up hb21.size
          replace hx := (hx.below hb21 (Nat.le_refl _)).up hb21.size
          replace hy := (hy.below hb21 (Nat.le_refl _)).up hb21.size
          replace ha := (ha.below hb21 (Nat.le_refl _)).up hb21.size
          replace hbb := (hbb.below hb21 (Nat.le_refl _)).up hb21.size
          replace hd := (hd.below hb21 (Nat.le_refl _)).up hb21.size
          replace hf := (hf.below hb21 (Nat.le_refl _)).up hb21.size
          replace hg := (hg.below hb21 (Nat.le_refl _)).up hb21.size
          replace ht := (ht.below hb21 (Nat.le_refl _)).up hb21.size
          replace hu := (hu.below hb21 (Nat.le_refl _)).up hb21.size
          replace hv := (hv.below hb21 (Nat.le_refl _)).up hb21.size
          clear hb21
          have hq := oq.ints
          clear oq
          go_wp2_with fail
          refine (pSum_any _ _ _ _ _ _ ht HG.out).mono ?_
          rintro e w' ⟨rfl, rfl⟩
          rw [← HSM.out]
          go_wp2_with fail
          refine (sameInts_any _ _ _ _ _ _ _ _ _ _ _ hq ht (Nat.le_refl _) (Nat.le_refl _)).mono ?_
          rintro e w22 ⟨rfl, hb22⟩
          rw [eqB_self]
          replace hB := hB.trans (hb22.mono hB.size)
          replace h0 := (h0.below hb22 (Nat.le_refl _)).up hb22.size
          replace h1 := (h1.below hb22 (Nat.le_refl _)).up hb22.size
          replace hx := (hx.below hb22 (Nat.le_refl _)).up hb22.size
          replace hy := (hy.below hb22 (Nat.le_refl _)).up hb22.size
          replace ha := (ha.below hb22 (Nat.le_refl _)).up hb22.size
          replace hbb := (hbb.below hb22 (Nat.le_refl _)).up hb22.size
          replace hd := (hd.below hb22 (Nat.le_refl _)).up hb22.size
          replace hf := (hf.below hb22 (Nat.le_refl _)).up hb22.size
          replace hg := (hg.below hb22 (Nat.le_refl _)).up hb22.size
          replace ht := (ht.below hb22 (Nat.le_refl _)).up hb22.size
          replace hu := (hu.below hb22 (Nat.le_refl _)).up hb22.size
          replace hv := (hv.below hb22 (Nat.le_refl _)).up hb22.size
          replace hq := (hq.below hb22 (Nat.le_refl _)).up hb22.size
          clear hb22
          go_wp2_with fail
          go_ret
          exact ⟨rfl, hB⟩
    · skip
      obtain ⟨sg, hs1, hs2, hs3, hs4⟩ := signed_back hgood h00
      rw [hlx.out, ← hv] at hs2
      have HS := Lib.hid hs1
      clear hs1 h00 hgood hv
      obtain ⟨p, hp⟩ : ∃ p : Int, p = 2 ^ nx := ⟨_, rfl⟩
      have hp1 := pow_le_16 hn16
      rw [← hp] at hs2 hp1
      obtain ⟨hp0, hp2⟩ := pow_wrap hn16 hp
      have HP := Lib.hid hp2
      clear hp2
      have HS2 := Lib.hid hs2
      clear hs2 hp
      go_wp2_with fail
      refine (impl_NumberOf_any _ _ _ _ _ hx).mono ?_
      rw [HN.out]
      rintro e w2 ⟨rfl, hb2⟩
      replace hB := hB.trans (hb2.mono hB.size)
      replace h0 := (h0.below hb2 (Nat.le_refl _)).up hb2.size
      replace h1 := (h1.below hb2 (Nat.le_refl _)).up hb2.size
      replace hx := (hx.below hb2 (Nat.le_refl _)).up hb2.size
      clear hb2
      go_wp2_with fail
      refine (spec_NumberOf_any _ _ _ _ _ _ hx).mono ?_
      rw [HN.out]
      rintro e w3 ⟨rfl, hb3⟩
      replace hB := hB.trans (hb3.mono hB.size)
      replace h0 := (h0.below hb3 (Nat.le_refl _)).up hb3.size
      replace h1 := (h1.below hb3 (Nat.le_refl _)).up hb3.size
      replace hx := (hx.below hb3 (Nat.le_refl _)).up hb3.size
      clear hb3
      go_wp2_with fail
      refine (impl_AreBits_any _ _ _ _ _ hx).mono ?_
      rw [← HVA.out]
      rintro e w4 ⟨rfl, hb4⟩
      replace hB := hB.trans (hb4.mono hB.size)
      replace h0 := (h0.below hb4 (Nat.le_refl _)).up hb4.size
      replace h1 := (h1.below hb4 (Nat.le_refl _)).up hb4.size
      replace hx := (hx.below hb4 (Nat.le_refl _)).up hb4.size
      clear hb4
      go_wp2_with fail
      refine (spec_AreBits_any _ _ _ _ _ _ hx).mono ?_
      rintro e w' ⟨rfl, rfl⟩
      rw [← HVA.out]
      go_wp2_with fail
      refine (impl_BitsOf_any _ _ _).mono ?_
      rw [HK.out]
      rintro e w5 ⟨boy, noy, coy, rfl, oy, hb5⟩
      replace hB := hB.trans (hb5.mono hB.size)
      replace h0 := (h0.below hb5 (Nat.le_refl _)).up hb5.size
      replace h1 := (h1.below hb5 (Nat.le_refl _)).up hb5.size
      replace hx := (hx.below hb5 (Nat.le_refl _)).up hb5.size
      clear hb5
      have hy := oy.ints
      clear oy
      go_wp2_with fail
      refine (sameInts_any _ _ _ _ _ _ _ _ _ _ _ hy hx (Nat.le_refl _) (Nat.le_refl _)).mono ?_
      rintro e w6 ⟨rfl, hb6⟩
      rw [eqB_self]
      replace hB := hB.trans (hb6.mono hB.size)
      replace h0 := (h0.below hb6 (Nat.le_refl _)).up hb6.size
      replace h1 := (h1.below hb6 (Nat.le_refl _)).up hb6.size
      replace hx := (hx.below hb6 (Nat.le_refl _)).up hb6.size
      replace hy := (hy.below hb6 (Nat.le_refl _)).up hb6.size
      clear hb6
      go_wp2_with fail
      refine (impl_SignedOf_any _ _ _ _ _ hx).mono ?_
      rw [HS.out]
      rintro e w7 ⟨rfl, hb7⟩
      replace hB := hB.trans (hb7.mono hB.size)
      replace h0 := (h0.below hb7 (Nat.le_refl _)).up hb7.size
      replace h1 := (h1.below hb7 (Nat.le_refl _)).up hb7.size
      replace hx := (hx.below hb7 (Nat.le_refl _)).up hb7.size
      replace hy := (hy.below hb7 (Nat.le_refl _)).up hb7.size
      clear hb7
      go_wp2_with fail
      refine (spec_SignedOf_any _ _ _ _ _ _ hx).mono ?_
      rw [HS.out]
      rintro e w8 ⟨rfl, hb8⟩
      replace hB := hB.trans (hb8.mono hB.size)
      replace h0 := (h0.below hb8 (Nat.le_refl _)).up hb8.size
      replace h1 := (h1.below hb8 (Nat.le_refl _)).up hb8.size
      replace hx := (hx.below hb8 (Nat.le_refl _)).up hb8.size
      replace hy := (hy.below hb8 (Nat.le_refl _)).up hb8.size
      clear hb8
      go_wp2_with (rw [HP.out])
      refine (pMod_any _ _ _ (by omega) (by omega)).mono ?_
      rintro e w' ⟨rfl, rfl⟩
      rw [HS2.out]
      go_wp2_with fail
      refine (DrawXorBits_any _ _ _ _ _ h1).mono ?_
      rintro e w9 ⟨xa, ba, na, ca, xb, bb, nb, cb, rfl, ha, hna, hbb, hnb, hb9⟩
      replace hB := hB.trans (hb9.mono hB.size)
      replace h0 := (h0.below hb9 (Nat.le_refl _)).up hb9.size
      replace h1 := (h1.below hb9 (Nat.le_refl _)).up hb9.size
      replace hx := (hx.below hb9 (Nat.le_refl _)).up hb9.size
      replace hy := (hy.below hb9 (Nat.le_refl _)).up hb9.size
      clear hb9
      obtain ⟨ds, okX, hX⟩ : ∃ r o, xorBitsF xa xb = (r, o) := ⟨_, _, rfl⟩
      have HX := Lib.hid hX
      clear hX
      go_wp2_with fail
      refine (impl_XorBits_any _ _ _ _ _ _ _ _ _ ha hbb).mono ?_
      rw [HX.out]
      rintro e w10 ⟨bod, nod, cod, rfl, od, hb10⟩
      replace hB := hB.trans (hb10.mono hB.size)
      replace h0 := (h0.below hb10 (Nat.le_refl _)).up hb10.size
      replace h1 := (h1.below hb10 (Nat.le_refl _)).up hb10.size
      replace hx := (hx.below hb10 (Nat.le_refl _)).up hb10.size
      replace hy := (hy.below hb10 (Nat.le_refl _)).up hb10.size
      replace ha := (ha.below hb10 (Nat.le_refl _)).up hb10.size
      replace hbb := (hbb.below hb10 (Nat.le_refl _)).up hb10.size
      clear hb10
      have hd := od.ints
      clear od
      go_wp2_with fail
      refine (spec_XorBits_any _ _ _ _ _ _ _ _ _ ha hbb).mono ?_
      rw [HX.out]
      rintro e w11 ⟨bof, nof, cof, rfl, of, hb11⟩
      replace hB := hB.trans (hb11.mono hB.size)
      replace h0 := (h0.below hb11 (Nat.le_refl _)).up hb11.size
      replace h1 := (h1.below hb11 (Nat.le_refl _)).up hb11.size
      replace hx := (hx.below hb11 (Nat.le_refl _)).up hb11.size
      replace hy := (hy.below hb11 (Nat.le_refl _)).up hb11.size
      replace ha := (ha.below hb11 (Nat.le_refl _)).up hb11.size
      replace hbb := (hbb.below hb11 (Nat.le_refl _)).up hb11.size
      replace hd := (hd.below hb11 (Nat.le_refl _)).up hb11.size
      clear hb11
      have hf := of.ints
      clear of
      go_wp2_with fail
      refine (sameInts_any _ _ _ _ _ _ _ _ _ _ _ hd hf (Nat.le_refl _) (Nat.le_refl _)).mono ?_
      rintro e w12 ⟨rfl, hb12⟩
      rw [eqB_self]
      replace hB := hB.trans (hb12.mono hB.size)
      replace h0 := (h0.below hb12 (Nat.le_refl _)).up hb12.size
      replace h1 := (h1.below hb12 (Nat.le_refl _)).up hb12.size
      replace hx := (hx.below hb12 (Nat.le_refl _)).up hb12.size
      replace hy := (hy.below hb12 (Nat.le_refl _)).up hb12.size
      replace ha := (ha.below hb12 (Nat.le_refl _)).up hb12.size
      replace hbb := (hbb.below hb12 (Nat.le_refl _)).up hb12.size
      replace hd := (hd.below hb12 (Nat.le_refl _)).up hb12.size
      replace hf := (hf.below hb12 (Nat.le_refl _)).up hb12.size
      clear hb12
      cases okX
      · skip
        go_wp2_with fail
        refine (DrawTurnBits_any _ _ _ _ _ h1).mono ?_
        rintro e w13 ⟨zs, bt, nt, ct, k, rfl, ht, hnt, hk0, hk1, hb13⟩
        replace hB := hB.trans (hb13.mono hB.size)
        replace h0 := (h0.below hb13 (Nat.le_refl _)).up hb13.size
        replace h1 := (h1.below hb13 (Nat.le_refl _)).up hb13.size
        replace hx := (hx.below hb13 (Nat.le_refl _)).up hb13.size
        replace hy := (hy.below hb13 (Nat.le_refl _)).up hb13.size
        replace ha := (ha.below hb13 (Nat.le_refl _)).up hb13.size
        replace hbb := (hbb.below hb13 (Nat.le_refl _)).up hb13.size
        replace hd := (hd.below hb13 (Nat.le_refl _)).up hb13.size
        replace hf := (hf.below hb13 (Nat.le_refl _)).up hb13.size
        clear hb13
        obtain ⟨us, okT, hT⟩ : ∃ r o, turnBitsF zs k = (r, o) := ⟨_, _, rfl⟩
        have HT := Lib.hid hT
        clear hT
        go_wp2_with fail
        refine (impl_TurnBits_any _ _ _ _ _ _ ht).mono ?_
        rw [HT.out]
        rintro e w14 ⟨bou, nou, cou, rfl, ou, hb14⟩
        replace hB := hB.trans (hb14.mono hB.size)
        replace h0 := (h0.below hb14 (Nat.le_refl _)).up hb14.size
        replace h1 := (h1.below hb14 (Nat.le_refl _)).up hb14.size
        replace hx := (hx.below hb14 (Nat.le_refl _)).up hb14.size
        replace hy := (hy.below hb14 (Nat.le_refl _)).up hb14.size
        replace ha := (ha.below hb14 (Nat.le_refl _)).up hb14.size
        replace hbb := (hbb.below hb14 (Nat.le_refl _)).up hb14.size
        replace hd := (hd.below hb14 (Nat.le_refl _)).up hb14.size
        replace hf := (hf.below hb14 (Nat.le_refl _)).up hb14.size
        replace ht := (ht.below hb14 (Nat.le_refl _)).up hb14.size
        clear hb14
        have hu := ou.ints
        clear ou
        go_wp2_with fail
        refine (spec_TurnBits_any _ _ _ _ _ _ ht).mono ?_
        rw [HT.out]
        rintro e w15 ⟨bov, nov, cov, rfl, ov, hb15⟩
        replace hB := hB.trans (hb15.mono hB.size)
        replace h0 := (h0.below hb15 (Nat.le_refl _)).up hb15.size
        replace h1 := (h1.below hb15 (Nat.le_refl _)).up hb15.size
        replace hx := (hx.below hb15 (Nat.le_refl _)).up hb15.size
        replace hy := (hy.below hb15 (Nat.le_refl _)).up hb15.size
        replace ha := (ha.below hb15 (Nat.le_refl _)).up hb15.size
        replace hbb := (hbb.below hb15 (Nat.le_refl _)).up hb15.size
        replace hd := (hd.below hb15 (Nat.le_refl _)).up hb15.size
        replace hf := (hf.below hb15 (Nat.le_refl _)).up hb15.size
        replace ht := (ht.below hb15 (Nat.le_refl _)).up hb15.size
        replace hu := (hu.below hb15 (Nat.le_refl _)).up hb15.size
        clear hb15
        have hv := ov.ints
        clear ov
        go_wp2_with fail
        refine (sameInts_any _ _ _ _ _ _ _ _ _ _ _ hu hv (Nat.le_refl _) (Nat.le_refl _)).mono ?_
        rintro e w16 ⟨rfl, hb16⟩
        rw [eqB_self]
        replace hB := hB.trans (hb16.mono hB.size)
        replace h0 := (h0.below hb16 (Nat.le_refl _)).up hb16.size
        replace h1 := (h1.below hb16 (Nat.le_refl _)).up hb16.size
        replace hx := (hx.below hb16 (Nat.le_refl _)).up hb16.size
        replace hy := (hy.below hb16 (Nat.le_refl _)).up hb16.size
        replace ha := (ha.below hb16 (Nat.le_refl _)).up hb16.size
        replace hbb := (hbb.below hb16 (Nat.le_refl _)).up hb16.size
        replace hd := (hd.below hb16 (Nat.le_refl _)).up hb16.size
        replace hf := (hf.below hb16 (Nat.le_refl _)).up hb16.size
        replace ht := (ht.below hb16 (Nat.le_refl _)).up hb16.size
        replace hu := (hu.below hb16 (Nat.le_refl _)).up hb16.size
        replace hv := (hv.below hb16 (Nat.le_refl _)).up hb16.size
        clear hb16
        cases okT
        · skip
          go_wp2_with fail
          go_ret
          exact ⟨rfl, hB⟩
        · skip
          obtain ⟨e1, e2, e3, hka, hkb⟩ := turn_back HT.out
          have E1 := Lib.hid e1
          have E2 := Lib.hid e2
          have E3 := Lib.hid e3
          clear e1 e2 e3
          have hg : allIn 0 1 zs = true := turn_bits HT.out
          have HG := Lib.hid hg
          clear hg
          obtain ⟨sm, hsm⟩ : ∃ q, q = sumL zs := ⟨_, rfl⟩
          have HSM := Lib.hid hsm
          clear hsm
          go_wp2_with fail
          refine (impl_WeightOf_any _ _ _ _ _ ht).mono ?_
          rw [E1.out, ← HSM.out]
          rintro e w17 ⟨rfl, hb17⟩
          replace hB := hB.trans (hb17.mono hB.size)
          replace h0 := (h0.below hb17 (Nat.le_refl _)).up hb17.size
          replace h1 := (h1.below hb17 (Nat.le_refl _)).up hb17.size
          replace hx := (hx.below hb17 (Nat.le_refl _)).up hb17.size
          replace hy := (hy.below hb17 (Nat.le_refl _)).up hb17.size
          replace ha := (ha.below hb17 (Nat.le_refl _)).up hb17.size
          replace hbb := (hbb.below hb17 (Nat.le_refl _)).up hb17.size
          replace hd := (hd.below hb17 (Nat.le_refl _)).up hb17.size
          replace hf := (hf.below hb17 (Nat.le_refl _)).up hb17.size
          replace ht := (ht.below hb17 (Nat.le_refl _)).up hb17.size
          replace hu := (hu.below hb17 (Nat.le_refl _)).up hb17.size
          replace hv := (hv.below hb17 (Nat.le_refl _)).up hb17.size
          clear hb17
          go_wp2_with fail
          refine (impl_WeightOf_any _ _ _ _ _ hu).mono ?_
          rw [E2.out, ← HSM.out]
          rintro e w18 ⟨rfl, hb18⟩
          replace hB := hB.trans (hb18.mono hB.size)
          replace h0 := (h0.below hb18 (Nat.le_refl _)).up hb18.size
          replace h1 := (h1.below hb18 (Nat.le_refl _)).up hb18.size
          replace hx := (hx.below hb18 (Nat.le_refl _)).up hb18.size
          replace hy := (hy.below hb18 (Nat.le_refl _)).up hb18.size
          replace ha := (ha.below hb18 (Nat.le_refl _)).up hb18.size
          replace hbb := (hbb.below hb18 (Nat.le_refl _)).up hb18.size
          replace hd := (hd.below hb18 (Nat.le_refl _)).up hb18.size
          replace hf := (hf.below hb18 (Nat.le_refl _)).up hb18.size
          replace ht := (ht.below hb18 (Nat.le_refl _)).up hb18.size
          replace hu := (hu.below hb18 (Nat.le_refl _)).up hb18.size
          replace hv := (hv.below hb18 (Nat.le_refl _)).up hb18.size
          clear hb18
          go_wp2_with fail
          refine (impl_TurnBits_any _ _ _ _ _ _ hu).mono ?_
          rw [E3.out]
          rintro e w19 ⟨boq, noq, coq, rfl, oq, hb19⟩
          replace hB := hB.trans (hb19.mono hB.size)
          replace h0 := (h0.below hb19 (Nat.le_refl _)).up hb19.size
          replace h1 := (h1.below hb19 (Nat.le_refl _)).up hb19.size
          replace hx := (hx.below hb19 (Nat.le_refl _)).up hb19.size
          replace hy := (hy.below hb19 (Nat.le_refl _)).up hb19.size
          replace ha := (ha.below hb19 (Nat.le_refl _)).up hb19.size
          replace hbb := (hbb.below hb19 (Nat.le_refl _)).up hb19.size
          replace hd := (hd.below hb19 (Nat.le_refl _)).up hb19.size
          replace hf := (hf.below hb19 (Nat.le_refl _)).up hb19.size
          replace ht := (ht.below hb19 (Nat.le_refl _)).up hb19.size
          replace hu := (hu.below hb19 (Nat.le_refl _)).up hb19.size
          replace hv := (hv.below hb19 (Nat.le_refl _)).up hb19.size
          clear hb19
          have hq := oq.ints
          clear oq
          go_wp2_with fail
          refine (pSum_any _ _ _ _ _ _ ht HG.out).mono ?_
          rintro e w' ⟨rfl, rfl⟩
          rw [← HSM.out]
          go_wp2_with fail
          refine (sameInts_any _ _ _ _ _ _ _ _ _ _ _ hq ht (Nat.le_refl _) (Nat.le_refl _)).mono ?_
          rintro e w20 ⟨rfl, hb20⟩
          rw [eqB_self]
          replace hB := hB.trans (hb20.mono hB.size)
          replace h0 := (h0.below hb20 (Nat.le_refl _)).up hb20.size
          replace h1 := (h1.below hb20 (Nat.le_refl _)).up hb20.size
          replace hx := (hx.below hb20 (Nat.le_refl _)).up hb20.size
          replace hy := (hy.below hb20 (Nat.le_refl _)).up hb20.size
          replace ha := (ha.below hb20 (Nat.le_refl _)).up hb20.size
          replace hbb := (hbb.below hb20 (Nat.le_refl _)).up hb20.size
          replace hd := (hd.below hb20 (Nat.le_refl _)).up hb20.size
          replace hf := (hf.below hb20 (Nat.le_refl _)).up hb20.size
          replace ht := (ht.below hb20 (Nat.le_refl _)).up hb20.size
          replace hu := (hu.below hb20 (Nat.le_refl _)).up hb20.size
          replace hv := (hv.below hb20 (Nat.le_refl _)).up hb20.size
          replace hq := (hq.below hb20 (Nat.le_refl _)).up hb20.size
          clear hb20
          go_wp2_with fail
          go_ret
          exact ⟨rfl, hB⟩
      · skip
        have HY := Lib.hid (xor_back HX.out)
        go_wp2_with fail
        refine (impl_XorBits_any _ _ _ _ _ _ _ _ _ hd hbb).mono ?_
        rw [HY.out]
        rintro e w13 ⟨bog, nog, cog, rfl, og, hb13⟩
        replace hB := hB.trans (hb13.mono hB.size)
        replace h0 := (h0.below hb13 (Nat.le_refl _)).up hb13.size
        replace h1 := (h1.below hb13 (Nat.le_refl _)).up hb13.size
        replace hx := (hx.below hb13 (Nat.le_refl _)).up hb13.size
        replace hy := (hy.below hb13 (Nat.le_refl _)).up hb13.size
        replace ha := (ha.below hb13 (Nat.le_refl _)).up hb13.size
        replace hbb := (hbb.below hb13 (Nat.le_refl _)).up hb13.size
        replace hd := (hd.below hb13 (Nat.le_refl _)).up hb13.size
        replace hf := (hf.below hb13 (Nat.le_refl _)).up hb13.size
        clear hb13
        have hg := og.ints
        clear og
        go_wp2_with fail
        refine (sameInts_any _ _ _ _ _ _ _ _ _ _ _ hg ha (Nat.le_refl _) (Nat.le_refl _)).mono ?_
        rintro e w14 ⟨rfl, hb14⟩
        rw [eqB_self]
        replace hB := hB.trans (hb14.mono hB.size)
        replace h0 := (h0.below hb14 (Nat.le_refl _)).up hb14.size
        replace h1 := (h1.below hb14 (Nat.le_refl _)).up hb14.size
        replace hx := (hx.below hb14 (Nat.le_refl _)).up hb14.size
        replace hy := (hy.below hb14 (Nat.le_refl _)).up hb14.size
        replace ha := (ha.below hb14 (Nat.le_refl _)).up hb14.size
        replace hbb := (hbb.below hb14 (Nat.le_refl _)).up hb14.size
        replace hd := (hd.below hb14 (Nat.le_refl _)).up hb14.size
        replace hf := (hf.below hb14 (Nat.le_refl _)).up hb14.size
        replace hg := (hg.below hb14 (Nat.le_refl _)).up hb14.size
        clear hb14
        go_wp2_with fail
        refine (DrawTurnBits_any _ _ _ _ _ h1).mono ?_
        rintro e w15 ⟨zs, bt, nt, ct, k, rfl, ht, hnt, hk0, hk1, hb15⟩
        replace hB := hB.trans (hb15.mono hB.size)
        replace h0 := (h0.below hb15 (Nat.le_refl _)).up hb15.size
        replace h1 := (h1.below hb15 (Nat.le_refl _)).up hb15.size
        replace hx := (hx.below hb15 (Nat.le_refl _)).up hb15.size
        replace hy := (hy.below hb15 (Nat.le_refl _)).up hb15.size
        replace ha := (ha.below hb15 (Nat.le_refl _)).up hb15.size
        replace hbb := (hbb.below hb15 (Nat.le_refl _)).up hb15.size
        replace hd := (hd.below hb15 (Nat.le_refl _)).up hb15.size
        replace hf := (hf.below hb15 (Nat.le_refl _)).up hb15.size
        replace hg := (hg.below hb15 (Nat.le_refl _)).up hb15.size
        clear hb15
        obtain ⟨us, okT, hT⟩ : ∃ r o, turnBitsF zs k = (r, o) := ⟨_, _, rfl⟩
        have HT := Lib.hid hT
        clear hT
        go_wp2_with fail
        refine (impl_TurnBits_any _ _ _ _ _ _ ht).mono ?_
        rw [HT.out]
        rintro e w16 ⟨bou, nou, cou, rfl, ou, hb16⟩
        replace hB := hB.trans (hb16.mono hB.size)
        replace h0 := (h0.below hb16 (Nat.le_refl _)).up hb16.size
        replace h1 := (h1.below hb16 (Nat.le_refl _)).up hb16.size
        replace hx := (hx.below hb16 (Nat.le_refl _)).up hb16.size
        replace hy := (hy.below hb16 (Nat.le_refl _)).up hb16.size
        replace ha := (ha.below hb16 (Nat.le_refl _)).up hb16.size
        replace hbb := (hbb.below hb16 (Nat.le_refl _)).up hb16.size
        replace hd := (hd.below hb16 (Nat.le_refl _)).up hb16.size
        replace hf := (hf.below hb16 (Nat.le_refl _)).up hb16.size
        replace hg := (hg.below hb16 (Nat.le_refl _)).up hb16.size
        replace ht := (ht.below hb16 (Nat.le_refl _)).up hb16.size
        clear hb16
        have hu := ou.ints
        clear ou
        go_wp2_with fail
        refine (spec_TurnBits_any _ _ _ _ _ _ ht).mono ?_
        rw [HT.out]
        rintro e w17 ⟨bov, nov, cov, rfl, ov, hb17⟩
        replace hB := hB.trans (hb17.mono hB.size)
        replace h0 := (h0.below hb17 (Nat.le_refl _)).up hb17.size
        replace h1 := (h1.below hb17 (Nat.le_refl _)).up hb17.size
        replace hx := (hx.below hb17 (Nat.le_refl _)).up hb17.size
        replace hy := (hy.below hb17 (Nat.le_refl _)).up hb17.size
        replace ha := (ha.below hb17 (Nat.le_refl _)).up hb17.size
        replace hbb := (hbb.below hb17 (Nat.le_refl _)).up hb17.size
        replace hd := (hd.below hb17 (Nat.le_refl _)).up hb17.size
        replace hf := (hf.below hb17 (Nat.le_refl _)).up hb17.size
        replace hg := (hg.below hb17 (Nat.le_refl _)).up hb17.size
        replace ht := (ht.below hb17 (Nat.le_refl _)).up hb17.size
        replace hu := (hu.below hb17 (Nat.le_refl _)).up hb17.size
        clear hb17
        have hv := ov.ints
        clear ov
        go_wp2_with fail
        refine (sameInts_any _ _ _ _ _ _ _ _ _ _ _ hu hv (Nat.le_refl _) (Nat.le_refl _)).mono ?_
        rintro e w18 ⟨rfl, hb18⟩
        rw [eqB_self]
        replace hB := hB.trans (hb18.mono hB.size)
        replace h0 := (h0.below hb18 (Nat.le_refl _)).up hb18.size
        replace h1 := (h1.below hb18 (Nat.le_refl _)).up hb18.size
        replace hx := (hx.below hb18 (Nat.le_refl _)).up hb18.size
        replace hy := (hy.below hb18 (Nat.le_refl _)).up hb18.size
        replace ha := (ha.below hb18 (Nat.le_refl _)).up hb18.size
        replace hbb := (hbb.below hb18 (Nat.le_refl _)).up hb18.size
        replace hd := (hd.below hb18 (Nat.le_refl _)).up hb18.size
        replace hf := (hf.below hb18 (Nat.le_refl _)).up hb18.size
        replace hg := (hg.below hb18 (Nat.le_refl _)).up hb18.size
        replace ht := (ht.below hb18 (Nat.le_refl _)).up hb18.size
        replace hu := (hu.below hb18 (Nat.le_refl _)).up hb18.size
        replace hv := (hv.below hb18 (Nat.le_refl _)).up hb18.size
        clear hb18
        cases okT
        · skip
          go_wp2_with fail
          go_ret
          exact ⟨rfl, hB⟩
        · skip
          obtain ⟨e1, e2, e3, hka, hkb⟩ := turn_back HT.out
          have E1 := Lib.hid e1
          have E2 := Lib.hid e2
          have E3 := Lib.hid e3
          clear e1 e2 e3
          have hg : allIn 0 1 zs = true := turn_bits HT.out
          have HG := Lib.hid hg
          clear hg
          obtain ⟨sm, hsm⟩ : ∃ q, q = sumL zs := ⟨_, rfl⟩
          have HSM := Lib.hid hsm
          clear hsm
          go_wp2_with fail
          refine (impl_WeightOf_any _ _ _ _ _ ht).mono ?_
          rw [E1.out, ← HSM.out]
          rintro e w19 ⟨rfl, hb19⟩
          replace hB := hB.trans (hb19.mono hB.size)
          replace h0 := (h0.below hb19 (Nat.le_refl _)).up hb19.size
          replace h1 := (h1.below hb19 (Nat.le_refl _)).up hb19.size
          replace hx := (hx.below hb19 (Nat.le_refl _)).up hb19.size
          replace hy := (hy.below hb19 (Nat.le_refl _)).up hb19.size
          replace ha := (ha.below hb19 (Nat.le_refl _)).up hb19.size
          replace hbb := (hbb.below hb19 (Nat.le_refl _)).up hb19.size
          replace hd := (hd.below hb19 (Nat.le_refl _)).up hb19.size
          replace hf := (hf.below hb19 (Nat.le_refl _)).up hb19.size
          replace hg := (hg.below hb19 (Nat.le_refl _)).up hb19.size
          replace ht := (ht.below hb19 (Nat.le_refl _)).up hb19.size
          replace hu := (hu.below hb19 (Nat.le_refl _)).up hb19.size
          replace hv := (hv.below hb19 (Nat.le_refl _)).up hb19.size
          clear hb19
          go_wp2_with fail
          refine (impl_WeightOf_any _ _ _ _ _ hu).mono ?_
          rw [E2.out, ← HSM.out]
          rintro e w20 ⟨rfl, hb20⟩
          replace hB := hB.trans (hb20.mono hB.size)
          replace h0 := (h0.below hb20 (Nat.le_refl _)).up hb20.size
          replace h1 := (h1.below hb20 (Nat.le_refl _)).up hb20.size
          replace hx := (hx.below hb20 (Nat.le_refl _)).up hb20.size
          replace hy := (hy.below hb20 (Nat.le_refl _)).up hb20.size
          replace ha := (ha.below hb20 (Nat.le_refl _)).up hb20.size
          replace hbb := (hbb.below hb20 (Nat.le_refl _)).up hb20.size
          replace hd := (hd.below hb20 (Nat.le_refl _)).up hb20.size
          replace hf := (hf.below hb20 (Nat.le_refl _)).up hb20.size
          replace hg := (hg.below hb20 (Nat.le_refl _)).up hb20.size
          replace ht := (ht.below hb20 (Nat.le_refl _)).up hb20.size
          replace hu := (hu.below hb20 (Nat.le_refl _)).up hb20.size
          replace hv := (hv.below hb20 (Nat.le_refl _)).up hb20.size
          clear hb20
          go_wp2_with fail
          refine (impl_TurnBits_any _ _ _ _ _ _ hu).mono ?_
          rw [E3.out]
          rintro e w21 ⟨boq, noq, coq, rfl, oq, hb21⟩
          replace hB := hB.trans (hb21.mono hB.size)
          replace h0 := (h0.below hb21 (Nat.le_refl _)).up hb21.size
          replace h1 := (h1.below hb21 (Nat.le_refl _)).up hb21.size
          replace hx := (hx.below hb21 (Nat.le_refl _)).up hb21.size
          replace hy := (hy.below hb21 (Nat.le_refl _)).up hb21.size
          replace ha := (ha.below hb21 (Nat.le_refl _)).up hb21.size
          replace hbb := (hbb.below hb21 (Nat.le_refl _)).up hb21.size
          replace hd := (hd.below hb21 (Nat.le_refl _)).up hb21.size
          replace hf := (hf.below hb21 (Nat.le_refl _)).up hb21.size
          replace hg := (hg.below hb21 (Nat.le_refl _)).up hb21.size
          replace ht := (ht.below hb21 (Nat.le_refl _)).up hb21.size
          replace hu := (hu.below hb21 (Nat.le_refl _)).up hb21.size
          replace hv := (hv.below hb21 (Nat.le_refl _)).up hb21.size
          clear hb21
          have hq := oq.ints
          clear oq
          go_wp2_with fail
          refine (pSum_any _ _ _ _ _ _ ht HG.out).mono ?_
          rintro e w' ⟨rfl, rfl⟩
          rw [← HSM.out]
          go_wp2_with fail
          refine (sameInts_any _ _ _ _ _ _ _ _ _ _ _ hq ht (Nat.le_refl _) (Nat.le_refl _)).mono ?_
          rintro e w22 ⟨rfl, hb22⟩
          rw [eqB_self]
          replace hB := hB.trans (hb22.mono hB.size)
          replace h0 := (h0.below hb22 (Nat.le_refl _)).up hb22.size
          replace h1 := (h1.below hb22 (Nat.le_refl _)).up hb22.size
          replace hx := (hx.below hb22 (Nat.le_refl _)).up hb22.size
          replace hy := (hy.below hb22 (Nat.le_refl _)).up hb22.size
          replace ha := (ha.below hb22 (Nat.le_refl _)).up hb22.size
          replace hbb := (hbb.below hb22 (Nat.le_refl _)).up hb22.size
          replace hd := (hd.below hb22 (Nat.le_refl _)).up hb22.size
          replace hf := (hf.below hb22 (Nat.le_refl _)).up hb22.size
          replace hg := (hg.below hb22 (Nat.le_refl _)).up hb22.size
          replace ht := (ht.below hb22 (Nat.le_refl _)).up hb22.size
          replace hu := (hu.below hb22 (Nat.le_refl _)).up hb22.size
          replace hv := (hv.below hb22 (Nat.le_refl _)).up hb22.size
          replace hq := (hq.below hb22 (Nat.le_refl _)).up hb22.size
          clear hb22
          go_wp2_with fail
          go_ret
          exact ⟨rfl, hB⟩
end Go.Proofs.Ytnpndpmelgfmbaa
