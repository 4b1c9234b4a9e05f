/-
  The law on texts of bits: its walk (printed by gen_draw.py).
-/
import Derived.Test.YtnpndpmelgfmbaaLh1
import Derived.Test.YtnpndpmelgfmbaaDr3
namespace Go.Proofs.Ytnpndpmelgfmbaa
open Go.RowKit
set_option linter.unusedVariables false
set_option linter.unusedSimpArgs false

set_option maxRecDepth 100000 in
set_option maxHeartbeats 20000000 in
theorem walk_FnBitTexts (a0 : Option Addr) (n0 c0 : Nat) (z0 : List Int) (a1 : Option Addr) (n1 c1 : Nat) (z1 : List Int) (w0 : World) (hA0 : BytesArg w0 a0 n0 z0) (hA1 : BytesArg w0 a1 n1 z1) : Calls Try.prog 6 #[.slice a0 n0 c0, .slice a1 n1 c1] w0 (RetB true w0) := by
  cases hbig : bigF n0 n1
  rotate_left
  · go_enter Try.func6, Try.ntmps6
    go_wp2_with fail
    refine (big_any _ _ _ _ _ _ _ hA0.2.1 hA1.2.1).mono ?_
    rintro e w' ⟨rfl, rfl⟩
    rw [hbig]
    go_wp2_with fail
    go_ret
    exact ⟨rfl, Below.refl _ _⟩
  obtain ⟨g0, g1⟩ := bigF_no hbig
  have h0 := hA0.bytes g0
  have h1 := hA1.bytes g1
  have hm0 := hA0.2.1
  have hm1 := hA1.2.1
  clear hA0 hA1
  have hB : Below w0.heap.size w0 w0 := Below.refl _ _
  go_enter Try.func6, Try.ntmps6
  go_wp2_with fail
  refine (big_any _ _ _ _ _ _ _ hm0 hm1).mono ?_
  rintro e w' ⟨rfl, rfl⟩
  rw [hbig]
  go_wp2_with fail
  refine (DrawParseBits_any _ _ _ _ _ h0).mono ?_
  rintro e w1 ⟨st, rfl, hst, hb1⟩
  replace hB := hB.trans (hb1.mono hB.size)
  replace h0 := (h0.below hb1 (Nat.le_refl _)).up hb1.size
  replace h1 := (h1.below hb1 (Nat.le_refl _)).up hb1.size
  clear hb1
  obtain ⟨l, okP, hP⟩ : ∃ r o, parseBitsF st = (r, o) := ⟨_, _, rfl⟩
  have HP := Lib.hid hP
  clear hP
  go_wp2_with fail
  refine (impl_ParseBits_any _ _ (by omega)).mono ?_
  rw [HP.out]
  rintro e w2 ⟨bol, nol, col, rfl, ol, hb2⟩
  replace hB := hB.trans (hb2.mono hB.size)
  replace h0 := (h0.below hb2 (Nat.le_refl _)).up hb2.size
  replace h1 := (h1.below hb2 (Nat.le_refl _)).up hb2.size
  clear hb2
  have hl := ol.ints
  clear ol
  go_wp2_with fail
  refine (spec_ParseBits_any _ _ (by omega)).mono ?_
  rw [HP.out]
  rintro e w3 ⟨bom, nom, com, rfl, om, hb3⟩
  replace hB := hB.trans (hb3.mono hB.size)
  replace h0 := (h0.below hb3 (Nat.le_refl _)).up hb3.size
  replace h1 := (h1.below hb3 (Nat.le_refl _)).up hb3.size
  replace hl := (hl.below hb3 (Nat.le_refl _)).up hb3.size
  clear hb3
  have hm := om.ints
  clear om
  go_wp2_with fail
  refine (sameInts_any _ _ _ _ _ _ _ _ _ _ _ hl hm (Nat.le_refl _) (Nat.le_refl _)).mono ?_
  rintro e w4 ⟨rfl, hb4⟩
  rw [eqB_self]
  replace hB := hB.trans (hb4.mono hB.size)
  replace h0 := (h0.below hb4 (Nat.le_refl _)).up hb4.size
  replace h1 := (h1.below hb4 (Nat.le_refl _)).up hb4.size
  replace hl := (hl.below hb4 (Nat.le_refl _)).up hb4.size
  replace hm := (hm.below hb4 (Nat.le_refl _)).up hb4.size
  clear hb4
  cases okP
  · skip
    go_wp2_with fail
    refine (DrawParityOf_any _ _ _ _ _ h1).mono ?_
    rintro e w5 ⟨xa, ba, na, ca, xb, bb, nb, cb, rfl, ha, hna, hbb, hnb, hb5⟩
    replace hB := hB.trans (hb5.mono hB.size)
    replace h0 := (h0.below hb5 (Nat.le_refl _)).up hb5.size
    replace h1 := (h1.below hb5 (Nat.le_refl _)).up hb5.size
    replace hl := (hl.below hb5 (Nat.le_refl _)).up hb5.size
    replace hm := (hm.below hb5 (Nat.le_refl _)).up hb5.size
    clear hb5
    obtain ⟨p, okQ, hQ⟩ : ∃ r o, parityF xa xb = (r, o) := ⟨_, _, rfl⟩
    have HQ := Lib.hid hQ
    clear hQ
    go_wp2_with fail
    refine (impl_ParityOf_any _ _ _ _ _ _ _ _ _ ha hbb).mono ?_
    rw [HQ.out]
    rintro e w6 ⟨rfl, hb6⟩
    replace hB := hB.trans (hb6.mono hB.size)
    replace h0 := (h0.below hb6 (Nat.le_refl _)).up hb6.size
    replace h1 := (h1.below hb6 (Nat.le_refl _)).up hb6.size
    replace hl := (hl.below hb6 (Nat.le_refl _)).up hb6.size
    replace hm := (hm.below hb6 (Nat.le_refl _)).up hb6.size
    replace ha := (ha.below hb6 (Nat.le_refl _)).up hb6.size
    replace hbb := (hbb.below hb6 (Nat.le_refl _)).up hb6.size
    clear hb6
    go_wp2_with fail
    refine (spec_ParityOf_any _ _ _ _ _ _ _ _ _ _ _ ha hbb).mono ?_
    rw [HQ.out]
    rintro e w7 ⟨rfl, hb7⟩
    replace hB := hB.trans (hb7.mono hB.size)
    replace h0 := (h0.below hb7 (Nat.le_refl _)).up hb7.size
    replace h1 := (h1.below hb7 (Nat.le_refl _)).up hb7.size
    replace hl := (hl.below hb7 (Nat.le_refl _)).up hb7.size
    replace hm := (hm.below hb7 (Nat.le_refl _)).up hb7.size
    replace ha := (ha.below hb7 (Nat.le_refl _)).up hb7.size
    replace hbb := (hbb.below hb7 (Nat.le_refl _)).up hb7.size
    clear hb7
    cases okQ
    · skip
      go_wp2_with fail
      refine (DrawBitsOf_any _ _ _ _ _ h1).mono ?_
      rintro e w8 ⟨bn, bw, rfl, _, _, _, _, hb8⟩
      replace hB := hB.trans (hb8.mono hB.size)
      replace h0 := (h0.below hb8 (Nat.le_refl _)).up hb8.size
      replace h1 := (h1.below hb8 (Nat.le_refl _)).up hb8.size
      replace hl := (hl.below hb8 (Nat.le_refl _)).up hb8.size
      replace hm := (hm.below hb8 (Nat.le_refl _)).up hb8.size
      replace ha := (ha.below hb8 (Nat.le_refl _)).up hb8.size
      replace hbb := (hbb.below hb8 (Nat.le_refl _)).up hb8.size
      clear hb8
      obtain ⟨bl, okB, hBB⟩ : ∃ r o, bitsOfF bn bw = (r, o) := ⟨_, _, rfl⟩
      have HBB := Lib.hid hBB
      clear hBB
      go_wp2_with fail
      refine (impl_BitsOf_any _ _ _).mono ?_
      rw [HBB.out]
      rintro e w9 ⟨box, nox, cox, rfl, ox, hb9⟩
      replace hB := hB.trans (hb9.mono hB.size)
      replace h0 := (h0.below hb9 (Nat.le_refl _)).up hb9.size
      replace h1 := (h1.below hb9 (Nat.le_refl _)).up hb9.size
      replace hl := (hl.below hb9 (Nat.le_refl _)).up hb9.size
      replace hm := (hm.below hb9 (Nat.le_refl _)).up hb9.size
      replace ha := (ha.below hb9 (Nat.le_refl _)).up hb9.size
      replace hbb := (hbb.below hb9 (Nat.le_refl _)).up hb9.size
      clear hb9
      have hx := ox.ints
      clear ox
      go_wp2_with fail
      refine (spec_BitsOf_any _ _ _).mono ?_
      rw [HBB.out]
      rintro e w10 ⟨boy, noy, coy, rfl, oy, hb10⟩
      replace hB := hB.trans (hb10.mono hB.size)
      replace h0 := (h0.below hb10 (Nat.le_refl _)).up hb10.size
      replace h1 := (h1.below hb10 (Nat.le_refl _)).up hb10.size
      replace hl := (hl.below hb10 (Nat.le_refl _)).up hb10.size
      replace hm := (hm.below hb10 (Nat.le_refl _)).up hb10.size
      replace ha := (ha.below hb10 (Nat.le_refl _)).up hb10.size
      replace hbb := (hbb.below hb10 (Nat.le_refl _)).up hb10.size
      replace hx := (hx.below hb10 (Nat.le_refl _)).up hb10.size
      clear hb10
      have hy := oy.ints
      clear oy
      go_wp2_with fail
      refine (sameInts_any _ _ _ _ _ _ _ _ _ _ _ hx hy (Nat.le_refl _) (Nat.le_refl _)).mono ?_
      rintro e w11 ⟨rfl, hb11⟩
      rw [eqB_self]
      replace hB := hB.trans (hb11.mono hB.size)
      replace h0 := (h0.below hb11 (Nat.le_refl _)).up hb11.size
      replace h1 := (h1.below hb11 (Nat.le_refl _)).up hb11.size
      replace hl := (hl.below hb11 (Nat.le_refl _)).up hb11.size
      replace hm := (hm.below hb11 (Nat.le_refl _)).up hb11.size
      replace ha := (ha.below hb11 (Nat.le_refl _)).up hb11.size
      replace hbb := (hbb.below hb11 (Nat.le_refl _)).up hb11.size
      replace hx := (hx.below hb11 (Nat.le_refl _)).up hb11.size
      replace hy := (hy.below hb11 (Nat.le_refl _)).up hb11.size
      clear hb11
      go_wp2_with fail
      go_ret
      exact ⟨rfl, hB⟩
    · skip
      obtain ⟨e1, q, e2, hpq, p0, p1, q0, q1, hgb⟩ := parity_back HQ.out
      have E1 := Lib.hid e1
      have E2 := Lib.hid e2
      have HG := Lib.hid (goodB_iff.1 hgb).2
      clear e1 e2 hgb
      obtain ⟨sm, hsm⟩ : ∃ q, q = sumL xb := ⟨_, rfl⟩
      rw [← hsm] at hpq
      have hs0 := sum01 HG.out
      rw [← hsm, hbb.1] at hs0
      have HSM := Lib.hid hsm
      clear hsm
      go_wp2_with fail
      refine (impl_NotBits_any _ _ _ _ _ ha).mono ?_
      rw [E1.out]
      rintro e w8 ⟨boz, noz, coz, rfl, oz, hb8⟩
      replace hB := hB.trans (hb8.mono hB.size)
      replace h0 := (h0.below hb8 (Nat.le_refl _)).up hb8.size
      replace h1 := (h1.below hb8 (Nat.le_refl _)).up hb8.size
      replace hl := (hl.below hb8 (Nat.le_refl _)).up hb8.size
      replace hm := (hm.below hb8 (Nat.le_refl _)).up hb8.size
      replace ha := (ha.below hb8 (Nat.le_refl _)).up hb8.size
      replace hbb := (hbb.below hb8 (Nat.le_refl _)).up hb8.size
      clear hb8
      have hz := oz.ints
      clear oz
      go_wp2_with fail
      refine (impl_ParityOf_any _ _ _ _ _ _ _ _ _ hz hbb).mono ?_
      rw [E2.out]
      rintro e w9 ⟨rfl, hb9⟩
      replace hB := hB.trans (hb9.mono hB.size)
      replace h0 := (h0.below hb9 (Nat.le_refl _)).up hb9.size
      replace h1 := (h1.below hb9 (Nat.le_refl _)).up hb9.size
      replace hl := (hl.below hb9 (Nat.le_refl _)).up hb9.size
      replace hm := (hm.below hb9 (Nat.le_refl _)).up hb9.size
      replace ha := (ha.below hb9 (Nat.le_refl _)).up hb9.size
      replace hbb := (hbb.below hb9 (Nat.le_refl _)).up hb9.size
      replace hz := (hz.below hb9 (Nat.le_refl _)).up hb9.size
      clear hb9
      go_wp2_with fail
      refine (pSum_any _ _ _ _ _ _ hbb HG.out).mono ?_
      rintro e w' ⟨rfl, rfl⟩
      rw [← HSM.out]
      go_wp2_with fail
      refine (DrawBitsOf_any _ _ _ _ _ h1).mono ?_
      rintro e w10 ⟨bn, bw, rfl, _, _, _, _, hb10⟩
      replace hB := hB.trans (hb10.mono hB.size)
      replace h0 := (h0.below hb10 (Nat.le_refl _)).up hb10.size
      replace h1 := (h1.below hb10 (Nat.le_refl _)).up hb10.size
      replace hl := (hl.below hb10 (Nat.le_refl _)).up hb10.size
      replace hm := (hm.below hb10 (Nat.le_refl _)).up hb10.size
      replace ha := (ha.below hb10 (Nat.le_refl _)).up hb10.size
      replace hbb := (hbb.below hb10 (Nat.le_refl _)).up hb10.size
      replace hz := (hz.below hb10 (Nat.le_refl _)).up hb10.size
      clear hb10
      obtain ⟨bl, okB, hBB⟩ : ∃ r o, bitsOfF bn bw = (r, o) := ⟨_, _, rfl⟩
      have HBB := Lib.hid hBB
      clear hBB
      go_wp2_with fail
      refine (impl_BitsOf_any _ _ _).mono ?_
      rw [HBB.out]
      rintro e w11 ⟨box, nox, cox, rfl, ox, hb11⟩
      replace hB := hB.trans (hb11.mono hB.size)
      replace h0 := (h0.below hb11 (Nat.le_refl _)).up hb11.size
      replace h1 := (h1.below hb11 (Nat.le_refl _)).up hb11.size
      replace hl := (hl.below hb11 (Nat.le_refl _)).up hb11.size
      replace hm := (hm.below hb11 (Nat.le_refl _)).up hb11.size
      replace ha := (ha.below hb11 (Nat.le_refl _)).up hb11.size
      replace hbb := (hbb.below hb11 (Nat.le_refl _)).up hb11.size
      replace hz := (hz.below hb11 (Nat.le_refl _)).up hb11.size
      clear hb11
      have hx := ox.ints
      clear ox
      go_wp2_with fail
      refine (spec_BitsOf_any _ _ _).mono ?_
      rw [HBB.out]
      rintro e w12 ⟨boy, noy, coy, rfl, oy, hb12⟩
      replace hB := hB.trans (hb12.mono hB.size)
      replace h0 := (h0.below hb12 (Nat.le_refl _)).up hb12.size
      replace h1 := (h1.below hb12 (Nat.le_refl _)).up hb12.size
      replace hl := (hl.below hb12 (Nat.le_refl _)).up hb12.size
      replace hm := (hm.below hb12 (Nat.le_refl _)).up hb12.size
      replace ha := (ha.below hb12 (Nat.le_refl _)).up hb12.size
      replace hbb := (hbb.below hb12 (Nat.le_refl _)).up hb12.size
      replace hz := (hz.below hb12 (Nat.le_refl _)).up hb12.size
      replace hx := (hx.below hb12 (Nat.le_refl _)).up hb12.size
      clear hb12
      have hy := oy.ints
      clear oy
      go_wp2_with fail
      refine (sameInts_any _ _ _ _ _ _ _ _ _ _ _ hx hy (Nat.le_refl _) (Nat.le_refl _)).mono ?_
      rintro e w13 ⟨rfl, hb13⟩
      rw [eqB_self]
      replace hB := hB.trans (hb13.mono hB.size)
      replace h0 := (h0.below hb13 (Nat.le_refl _)).up hb13.size
      replace h1 := (h1.below hb13 (Nat.le_refl _)).up hb13.size
      replace hl := (hl.below hb13 (Nat.le_refl _)).up hb13.size
      replace hm := (hm.below hb13 (Nat.le_refl _)).up hb13.size
      replace ha := (ha.below hb13 (Nat.le_refl _)).up hb13.size
      replace hbb := (hbb.below hb13 (Nat.le_refl _)).up hb13.size
      replace hz := (hz.below hb13 (Nat.le_refl _)).up hb13.size
      replace hx := (hx.below hb13 (Nat.le_refl _)).up hb13.size
      replace hy := (hy.below hb13 (Nat.le_refl _)).up hb13.size
      clear hb13
      go_wp2_with fail
      go_ret
      exact ⟨rfl, hB⟩
  · skip
    obtain ⟨e1, e2, e3⟩ := text_back HP.out
    have E1 := Lib.hid e1
    have E2 := Lib.hid e2
    have E3 := Lib.hid e3
    clear e1 e2 e3
    go_wp2_with fail
    refine (impl_BitsText_any _ _ _ _ _ hl).mono ?_
    rw [E1.out]
    rintro e w5 ⟨rfl, hb5⟩
    replace hB := hB.trans (hb5.mono hB.size)
    replace h0 := (h0.below hb5 (Nat.le_refl _)).up hb5.size
    replace h1 := (h1.below hb5 (Nat.le_refl _)).up hb5.size
    replace hl := (hl.below hb5 (Nat.le_refl _)).up hb5.size
    replace hm := (hm.below hb5 (Nat.le_refl _)).up hb5.size
    clear hb5
    go_wp2_with fail
    refine (impl_NotBits_any _ _ _ _ _ hl).mono ?_
    rw [E2.out]
    rintro e w6 ⟨bon, non, con, rfl, on, hb6⟩
    replace hB := hB.trans (hb6.mono hB.size)
    replace h0 := (h0.below hb6 (Nat.le_refl _)).up hb6.size
    replace h1 := (h1.below hb6 (Nat.le_refl _)).up hb6.size
    replace hl := (hl.below hb6 (Nat.le_refl _)).up hb6.size
    replace hm := (hm.below hb6 (Nat.le_refl _)).up hb6.size
    clear hb6
    have hn := on.ints
    clear on
    go_wp2_with fail
    refine (impl_NotBits_any _ _ _ _ _ hn).mono ?_
    rw [E3.out]
    rintro e w7 ⟨bok, nok, cok, rfl, ok, hb7⟩
    replace hB := hB.trans (hb7.mono hB.size)
    replace h0 := (h0.below hb7 (Nat.le_refl _)).up hb7.size
    replace h1 := (h1.below hb7 (Nat.le_refl _)).up hb7.size
    replace hl := (hl.below hb7 (Nat.le_refl _)).up hb7.size
    replace hm := (hm.below hb7 (Nat.le_refl _)).up hb7.size
    replace hn := (hn.below hb7 (Nat.le_refl _)).up hb7.size
    clear hb7
    have hk := ok.ints
    clear ok
    go_wp2_with fail
    refine (sameInts_any _ _ _ _ _ _ _ _ _ _ _ hk hl (Nat.le_refl _) (Nat.le_refl _)).mono ?_
    rintro e w8 ⟨rfl, hb8⟩
    rw [eqB_self]
    replace hB := hB.trans (hb8.mono hB.size)
    replace h0 := (h0.below hb8 (Nat.le_refl _)).up hb8.size
    replace h1 := (h1.below hb8 (Nat.le_refl _)).up hb8.size
    replace hl := (hl.below hb8 (Nat.le_refl _)).up hb8.size
    replace hm := (hm.below hb8 (Nat.le_refl _)).up hb8.size
    replace hn := (hn.below hb8 (Nat.le_refl _)).up hb8.size
    replace hk := (hk.below hb8 (Nat.le_refl _)).up hb8.size
    clear hb8
    go_wp2_with fail
    refine (DrawParityOf_any _ _ _ _ _ h1).mono ?_
    rintro e w9 ⟨xa, ba, na, ca, xb, bb, nb, cb, rfl, ha, hna, hbb, hnb, hb9⟩
    replace hB := hB.trans (hb9.mono hB.size)
    replace h0 := (h0.below hb9 (Nat.le_refl _)).up hb9.size
    replace h1 := (h1.below hb9 (Nat.le_refl _)).up hb9.size
    replace hl := (hl.below hb9 (Nat.le_refl _)).up hb9.size
    replace hm := (hm.below hb9 (Nat.le_refl _)).up hb9.size
    replace hn := (hn.below hb9 (Nat.le_refl _)).up hb9.size
    replace hk := (hk.below hb9 (Nat.le_refl _)).up hb9.size
    clear hb9
    obtain ⟨p, okQ, hQ⟩ : ∃ r o, parityF xa xb = (r, o) := ⟨_, _, rfl⟩
    have HQ := Lib.hid hQ
    clear hQ
    go_wp2_with fail
    refine (impl_ParityOf_any _ _ _ _ _ _ _ _ _ ha hbb).mono ?_
    rw [HQ.out]
    rintro e w10 ⟨rfl, hb10⟩
    replace hB := hB.trans (hb10.mono hB.size)
    replace h0 := (h0.below hb10 (Nat.le_refl _)).up hb10.size
    replace h1 := (h1.below hb10 (Nat.le_refl _)).up hb10.size
    replace hl := (hl.below hb10 (Nat.le_refl _)).up hb10.size
    replace hm := (hm.below hb10 (Nat.le_refl _)).up hb10.size
    replace hn := (hn.below hb10 (Nat.le_refl _)).up hb10.size
    replace hk := (hk.below hb10 (Nat.le_refl _)).up hb10.size
    replace ha := (ha.below hb10 (Nat.le_refl _)).up hb10.size
    replace hbb := (hbb.below hb10 (Nat.le_refl _)).up hb10.size
    clear hb10
    go_wp2_with fail
    refine (spec_ParityOf_any _ _ _ _ _ _ _ _ _ _ _ ha hbb).mono ?_
    rw [HQ.out]
    rintro e w11 ⟨rfl, hb11⟩
    replace hB := hB.trans (hb11.mono hB.size)
    replace h0 := (h0.below hb11 (Nat.le_refl _)).up hb11.size
    replace h1 := (h1.below hb11 (Nat.le_refl _)).up hb11.size
    replace hl := (hl.below hb11 (Nat.le_refl _)).up hb11.size
    replace hm := (hm.below hb11 (Nat.le_refl _)).up hb11.size
    replace hn := (hn.below hb11 (Nat.le_refl _)).up hb11.size
    replace hk := (hk.below hb11 (Nat.le_refl _)).up hb11.size
    replace ha := (ha.below hb11 (Nat.le_refl _)).up hb11.size
    replace hbb := (hbb.below hb11 (Nat.le_refl _)).up hb11.size
    clear hb11
    cases okQ
    · skip
      go_wp2_with fail
      refine (DrawBitsOf_any _ _ _ _ _ h1).mono ?_
      rintro e w12 ⟨bn, bw, rfl, _, _, _, _, hb12⟩
      replace hB := hB.trans (hb12.mono hB.size)
      replace h0 := (h0.below hb12 (Nat.le_refl _)).up hb12.size
      replace h1 := (h1.below hb12 (Nat.le_refl _)).up hb12.size
      replace hl := (hl.below hb12 (Nat.le_refl _)).up hb12.size
      replace hm := (hm.below hb12 (Nat.le_refl _)).up hb12.size
      replace hn := (hn.below hb12 (Nat.le_refl _)).up hb12.size
      replace hk := (hk.below hb12 (Nat.le_refl _)).up hb12.size
      replace ha := (ha.below hb12 (Nat.le_refl _)).up hb12.size
      replace hbb := (hbb.below hb12 (Nat.le_refl _)).up hb12.size
      clear hb12
      obtain ⟨bl, okB, hBB⟩ : ∃ r o, bitsOfF bn bw = (r, o) := ⟨_, _, rfl⟩
      have HBB := Lib.hid hBB
      clear hBB
      go_wp2_with fail
      refine (impl_BitsOf_any _ _ _).mono ?_
      rw [HBB.out]
      rintro e w13 ⟨box, nox, cox, rfl, ox, hb13⟩
      replace hB := hB.trans (hb13.mono hB.size)
      replace h0 := (h0.below hb13 (Nat.le_refl _)).up hb13.size
      replace h1 := (h1.below hb13 (Nat.le_refl _)).up hb13.size
      replace hl := (hl.below hb13 (Nat.le_refl _)).up hb13.size
      replace hm := (hm.below hb13 (Nat.le_refl _)).up hb13.size
      replace hn := (hn.below hb13 (Nat.le_refl _)).up hb13.size
      replace hk := (hk.below hb13 (Nat.le_refl _)).up hb13.size
      replace ha := (ha.below hb13 (Nat.le_refl _)).up hb13.size
      replace hbb := (hbb.below hb13 (Nat.le_refl _)).up hb13.size
      clear hb13
      have hx := ox.ints
      clear ox
      go_wp2_with fail
      refine (spec_BitsOf_any _ _ _).mono ?_
      rw [HBB.out]
      rintro e w14 ⟨boy, noy, coy, rfl, oy, hb14⟩
      replace hB := hB.trans (hb14.mono hB.size)
      replace h0 := (h0.below hb14 (Nat.le_refl _)).up hb14.size
      replace h1 := (h1.below hb14 (Nat.le_refl _)).up hb14.size
      replace hl := (hl.below hb14 (Nat.le_refl _)).up hb14.size
      replace hm := (hm.below hb14 (Nat.le_refl _)).up hb14.size
      replace hn := (hn.below hb14 (Nat.le_refl _)).up hb14.size
      replace hk := (hk.below hb14 (Nat.le_refl _)).up hb14.size
      replace ha := (ha.below hb14 (Nat.le_refl _)).up hb14.size
      replace hbb := (hbb.below hb14 (Nat.le_refl _)).up hb14.size
      replace hx := (hx.below hb14 (Nat.le_refl _)).up hb14.size
      clear hb14
      have hy := oy.ints
      clear oy
      go_wp2_with fail
      refine (sameInts_any _ _ _ _ _ _ _ _ _ _ _ hx hy (Nat.le_refl _) (Nat.le_refl _)).mono ?_
      rintro e w15 ⟨rfl, hb15⟩
      rw [eqB_self]
      replace hB := hB.trans (hb15.mono hB.size)
      replace h0 := (h0.below hb15 (Nat.le_refl _)).up hb15.size
      replace h1 := (h1.below hb15 (Nat.le_refl _)).up hb15.size
      replace hl := (hl.below hb15 (Nat.le_refl _)).up hb15.size
      replace hm := (hm.below hb15 (Nat.le_refl _)).up hb15.size
      replace hn := (hn.below hb15 (Nat.le_refl _)).up hb15.size
      replace hk := (hk.below hb15 (Nat.le_refl _)).up hb15.size
      replace ha := (ha.below hb15 (Nat.le_refl _)).up hb15.size
      replace hbb := (hbb.below hb15 (Nat.le_refl _)).up hb15.size
      replace hx := (hx.below hb15 (Nat.le_refl _)).up hb15.size
      replace hy := (hy.below hb15 (Nat.le_refl _)).up hb15.size
      clear hb15
      go_wp2_with fail
      go_ret
      exact ⟨rfl, hB⟩
    · skip
      obtain ⟨e1, q, e2, hpq, p0, p1, q0, q1, hgb⟩ := parity_back HQ.out
      have E1 := Lib.hid e1
      have E2 := Lib.hid e2
      have HG := Lib.hid (goodB_iff.1 hgb).2
      clear e1 e2 hgb
      obtain ⟨sm, hsm⟩ : ∃ q, q = sumL xb := ⟨_, rfl⟩
      rw [← hsm] at hpq
      have hs0 := sum01 HG.out
      rw [← hsm, hbb.1] at hs0
      have HSM := Lib.hid hsm
      clear hsm
      go_wp2_with fail
      refine (impl_NotBits_any _ _ _ _ _ ha).mono ?_
      rw [E1.out]
      rintro e w12 ⟨boz, noz, coz, rfl, oz, hb12⟩
      replace hB := hB.trans (hb12.mono hB.size)
      replace h0 := (h0.below hb12 (Nat.le_refl _)).up hb12.size
      replace h1 := (h1.below hb12 (Nat.le_refl _)).up hb12.size
      replace hl := (hl.below hb12 (Nat.le_refl _)).up hb12.size
      replace hm := (hm.below hb12 (Nat.le_refl _)).up hb12.size
      replace hn := (hn.below hb12 (Nat.le_refl _)).up hb12.size
      replace hk := (hk.below hb12 (Nat.le_refl _)).up hb12.size
      replace ha := (ha.below hb12 (Nat.le_refl _)).up hb12.size
      replace hbb := (hbb.below hb12 (Nat.le_refl _)).up hb12.size
      clear hb12
      have hz := oz.ints
      clear oz
      go_wp2_with fail
      refine (impl_ParityOf_any _ _ _ _ _ _ _ _ _ hz hbb).mono ?_
      rw [E2.out]
      rintro e w13 ⟨rfl, hb13⟩
      replace hB := hB.trans (hb13.mono hB.size)
      replace h0 := (h0.below hb13 (Nat.le_refl _)).up hb13.size
      replace h1 := (h1.below hb13 (Nat.le_refl _)).up hb13.size
      replace hl := (hl.below hb13 (Nat.le_refl _)).up hb13.size
      replace hm := (hm.below hb13 (Nat.le_refl _)).up hb13.size
      replace hn := (hn.below hb13 (Nat.le_refl _)).up hb13.size
      replace hk := (hk.below hb13 (Nat.le_refl _)).up hb13.size
      replace ha := (ha.below hb13 (Nat.le_refl _)).up hb13.size
      replace hbb := (hbb.below hb13 (Nat.le_refl _)).up hb13.size
      replace hz := (hz.below hb13 (Nat.le_refl _)).up hb13.size
      clear hb13
      go_wp2_with fail
      refine (pSum_any _ _ _ _ _ _ hbb HG.out).mono ?_
      rintro e w' ⟨rfl, rfl⟩
      rw [← HSM.out]
      go_wp2_with fail
      refine (DrawBitsOf_any _ _ _ _ _ h1).mono ?_
      rintro e w14 ⟨bn, bw, rfl, _, _, _, _, hb14⟩
      replace hB := hB.trans (hb14.mono hB.size)
      replace h0 := (h0.below hb14 (Nat.le_refl _)).up hb14.size
      replace h1 := (h1.below hb14 (Nat.le_refl _)).up hb14.size
      replace hl := (hl.below hb14 (Nat.le_refl _)).up hb14.size
      replace hm := (hm.below hb14 (Nat.le_refl _)).up hb14.size
      replace hn := (hn.below hb14 (Nat.le_refl _)).up hb14.size
      replace hk := (hk.below hb14 (Nat.le_refl _)).up hb14.size
      replace ha := (ha.below hb14 (Nat.le_refl _)).up hb14.size
      replace hbb := (hbb.below hb14 (Nat.le_refl _)).up hb14.size
      replace hz := (hz.below hb14 (Nat.le_refl _)).up hb14.size
      clear hb14
      obtain ⟨bl, okB, hBB⟩ : ∃ r o, bitsOfF bn bw = (r, o) := ⟨_, _, rfl⟩
      have HBB := Lib.hid hBB
      clear hBB
      go_wp2_with fail
      refine (impl_BitsOf_any _ _ _).mono ?_
      rw [HBB.out]
      rintro e w15 ⟨box, nox, cox, rfl, ox, hb15⟩
      replace hB := hB.trans (hb15.mono hB.size)
      replace h0 := (h0.below hb15 (Nat.le_refl _)).up hb15.size
      replace h1 := (h1.below hb15 (Nat.le_refl _)).up hb15.size
      replace hl := (hl.below hb15 (Nat.le_refl _)).up hb15.size
      replace hm := (hm.below hb15 (Nat.le_refl _)).up hb15.size
      replace hn := (hn.below hb15 (Nat.le_refl _)).up hb15.size
      replace hk := (hk.below hb15 (Nat.le_refl _)).up hb15.size
      replace ha := (ha.below hb15 (Nat.le_refl _)).up hb15.size
      replace hbb := (hbb.below hb15 (Nat.le_refl _)).up hb15.size
      replace hz := (hz.below hb15 (Nat.le_refl _)).up hb15.size
      clear hb15
      have hx := ox.ints
      clear ox
      go_wp2_with fail
      refine (spec_BitsOf_any _ _ _).mono ?_
      rw [HBB.out]
      rintro e w16 ⟨boy, noy, coy, rfl, oy, hb16⟩
      replace hB := hB.trans (hb16.mono hB.size)
      replace h0 := (h0.below hb16 (Nat.le_refl _)).up hb16.size
      replace h1 := (h1.below hb16 (Nat.le_refl _)).up hb16.size
      replace hl := (hl.below hb16 (Nat.le_refl _)).up hb16.size
      replace hm := (hm.below hb16 (Nat.le_refl _)).up hb16.size
      replace hn := (hn.below hb16 (Nat.le_refl _)).up hb16.size
      replace hk := (hk.below hb16 (Nat.le_refl _)).up hb16.size
      replace ha := (ha.below hb16 (Nat.le_refl _)).up hb16.size
      replace hbb := (hbb.below hb16 (Nat.le_refl _)).up hb16.size
      replace hz := (hz.below hb16 (Nat.le_refl _)).up hb16.size
      replace hx := (hx.below hb16 (Nat.le_refl _)).up hb16.size
      clear hb16
      have hy := oy.ints
      clear oy
      go_wp2_with fail
      refine (sameInts_any _ _ _ _ _ _ _ _ _ _ _ hx hy (Nat.le_refl _) (Nat.le_refl _)).mono ?_
      rintro e w17 ⟨rfl, hb17⟩
      rw [eqB_self]
      replace hB := hB.trans (hb17.mono hB.size)
      replace h0 := (h0.below hb17 (Nat.le_refl _)).up hb17.size
      replace h1 := (h1.below hb17 (Nat.le_refl _)).up hb17.size
      replace hl := (hl.below hb17 (Nat.le_refl _)).up hb17.size
      replace hm := (hm.below hb17 (Nat.le_refl _)).up hb17.size
      replace hn := (hn.below hb17 (Nat.le_refl _)).up hb17.size
      replace hk := (hk.below hb17 (Nat.le_refl _)).up hb17.size
      replace ha := (ha.below hb17 (Nat.le_refl _)).up hb17.size
      replace hbb := (hbb.below hb17 (Nat.le_refl _)).up hb17.size
      replace hz := (hz.below hb17 (Nat.le_refl _)).up hb17.size
      replace hx := (hx.below hb17 (Nat.le_refl _)).up hb17.size
      replace hy := (hy.below hb17 (Nat.le_refl _)).up hb17.size
      clear hb17
      go_wp2_with fail
      go_ret
      exact ⟨rfl, hB⟩
end Go.Proofs.Ytnpndpmelgfmbaa
