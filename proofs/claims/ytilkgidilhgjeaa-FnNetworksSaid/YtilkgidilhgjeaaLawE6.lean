/-
  The law on networks: its walk (printed by XLawE6.py).
-/
import Derived.Test.YtilkgidilhgjeaaLy3
namespace Go.Proofs.Ytilkgidilhgjeaa
open Go.RowKit
set_option linter.unusedVariables false
set_option linter.unusedSimpArgs false

set_option maxRecDepth 100000 in
set_option maxHeartbeats 20000000 in
theorem walk_FnNetworks (a0 : Option Addr) (n0 c0 : Nat) (z0 : List Int) (a1 : Option Addr) (n1 c1 : Nat) (z1 : List Int) (w0 : World) (hA0 : BytesArg w0 a0 n0 z0) (hA1 : BytesArg w0 a1 n1 z1) : Calls Try.prog 5 #[.slice a0 n0 c0, .slice a1 n1 c1] w0 (RetB true w0) := by
  cases hbig : bigF n0 n1
  rotate_left
  · go_enter Try.func5, Try.ntmps5
    go_wp2_with fail
    refine (big_any _ _ _ _ _ _ _ hA0.2.1 hA1.2.1).mono ?_
    rintro e w' ⟨rfl, rfl⟩
    rw [hbig]
    go_wp2_with fail
    go_ret
    exact ⟨rfl, Below.refl _ _⟩
  obtain ⟨g0, g1⟩ := bigF_no hbig
  have h0 := hA0.bytes g0
  have h1 := hA1.bytes g1
  have hm0 := hA0.2.1
  have hm1 := hA1.2.1
  clear hA0 hA1
  have hB : Below w0.heap.size w0 w0 := Below.refl _ _
  go_enter Try.func5, Try.ntmps5
  go_wp2_with fail
  refine (big_any _ _ _ _ _ _ _ hm0 hm1).mono ?_
  rintro e w' ⟨rfl, rfl⟩
  rw [hbig]
  go_wp2_with fail
  refine (DrawSortWith_any _ _ _ _ _ h0).mono ?_
  rintro e w1 ⟨n, xs, bl, len, cl, x, bx, lx, cx, rfl, hl, hlen, hx, hlx, hb1⟩
  replace hB := hB.trans (hb1.mono hB.size)
  replace h0 := (h0.below hb1 (Nat.le_refl _)).up hb1.size
  replace h1 := (h1.below hb1 (Nat.le_refl _)).up hb1.size
  clear hb1
  have HLL := Lib.hid hl.1
  obtain ⟨y, ok, hS⟩ : ∃ r o, sortWithF n xs x = (r, o) := ⟨_, _, rfl⟩
  obtain ⟨so, one, hA⟩ : ∃ r o, sortsAllF n xs = (r, o) := ⟨_, _, rfl⟩
  obtain ⟨u, three, hU⟩ : ∃ r o, firstUnsortedF n xs = (r, o) := ⟨_, _, rfl⟩
  obtain ⟨p1, p2, p3⟩ := net_back HLL.out hS hA hU
  have P1 := Lib.hid p1
  have P2 := Lib.hid p2
  have P3 := Lib.hid p3
  have HS := Lib.hid hS
  have HA := Lib.hid hA
  have HU := Lib.hid hU
  clear p1 p2 p3 hS hA hU
  go_wp2_with fail
  refine (impl_SortWith_any _ _ _ _ _ _ _ _ _ _ hl hx).mono ?_
  rw [HS.out]
  rintro e w2 ⟨boy, noy, coy, rfl, oy, hb2⟩
  replace hB := hB.trans (hb2.mono hB.size)
  replace h0 := (h0.below hb2 (Nat.le_refl _)).up hb2.size
  replace h1 := (h1.below hb2 (Nat.le_refl _)).up hb2.size
  replace hl := (hl.below hb2 (Nat.le_refl _)).up hb2.size
  replace hx := (hx.below hb2 (Nat.le_refl _)).up hb2.size
  clear hb2
  have hy := oy.ints
  clear oy
  go_wp2_with fail
  refine (spec_SortWith_any _ _ _ _ _ _ _ _ _ _ hl hx).mono ?_
  rw [HS.out]
  rintro e w3 ⟨bow, now, cow, rfl, ow, hb3⟩
  replace hB := hB.trans (hb3.mono hB.size)
  replace h0 := (h0.below hb3 (Nat.le_refl _)).up hb3.size
  replace h1 := (h1.below hb3 (Nat.le_refl _)).up hb3.size
  replace hl := (hl.below hb3 (Nat.le_refl _)).up hb3.size
  replace hx := (hx.below hb3 (Nat.le_refl _)).up hb3.size
  replace hy := (hy.below hb3 (Nat.le_refl _)).up hb3.size
  clear hb3
  have hw := ow.ints
  clear ow
  have hny : noy = now := hy.1.symm.trans hw.1
  subst hny
  go_wp2_with fail
  refine (sameInts_q _ _ _ _ _ _ _ _ _ hy hw).mono ?_
  rintro e w4 ⟨rfl, hq⟩
  have hb := hq.below w3.heap.size
  clear hq
  replace hB := hB.trans (hb.mono hB.size)
  replace h0 := (h0.below hb (Nat.le_refl _)).up hb.size
  replace h1 := (h1.below hb (Nat.le_refl _)).up hb.size
  replace hl := (hl.below hb (Nat.le_refl _)).up hb.size
  replace hx := (hx.below hb (Nat.le_refl _)).up hb.size
  replace hy := (hy.below hb (Nat.le_refl _)).up hb.size
  replace hw := (hw.below hb (Nat.le_refl _)).up hb.size
  clear hb
  obtain ⟨inet, hin⟩ : ∃ b, b = isNetF n xs := ⟨_, rfl⟩
  have HIN := Lib.hid hin
  clear hin
  go_wp2_with fail
  refine (impl_IsNetwork_any _ _ _ _ _ _ hl).mono ?_
  rintro e w5 ⟨rfl, hb5⟩
  rw [← HIN.out]
  replace hB := hB.trans (hb5.mono hB.size)
  replace h0 := (h0.below hb5 (Nat.le_refl _)).up hb5.size
  replace h1 := (h1.below hb5 (Nat.le_refl _)).up hb5.size
  replace hl := (hl.below hb5 (Nat.le_refl _)).up hb5.size
  replace hx := (hx.below hb5 (Nat.le_refl _)).up hb5.size
  replace hy := (hy.below hb5 (Nat.le_refl _)).up hb5.size
  replace hw := (hw.below hb5 (Nat.le_refl _)).up hb5.size
  clear hb5
  go_wp2_with fail
  refine (spec_IsNetwork_any _ _ _ _ _ _ hl).mono ?_
  rintro e w6 ⟨rfl, hb6⟩
  rw [← HIN.out]
  replace hB := hB.trans (hb6.mono hB.size)
  replace h0 := (h0.below hb6 (Nat.le_refl _)).up hb6.size
  replace h1 := (h1.below hb6 (Nat.le_refl _)).up hb6.size
  replace hl := (hl.below hb6 (Nat.le_refl _)).up hb6.size
  replace hx := (hx.below hb6 (Nat.le_refl _)).up hb6.size
  replace hy := (hy.below hb6 (Nat.le_refl _)).up hb6.size
  replace hw := (hw.below hb6 (Nat.le_refl _)).up hb6.size
  clear hb6
  go_wp2_with fail
  refine (impl_SortsAll_any _ _ _ _ _ _ hl).mono ?_
  rintro e w7 ⟨rfl, hb7⟩
  rw [HA.out]
  replace hB := hB.trans (hb7.mono hB.size)
  replace h0 := (h0.below hb7 (Nat.le_refl _)).up hb7.size
  replace h1 := (h1.below hb7 (Nat.le_refl _)).up hb7.size
  replace hl := (hl.below hb7 (Nat.le_refl _)).up hb7.size
  replace hx := (hx.below hb7 (Nat.le_refl _)).up hb7.size
  replace hy := (hy.below hb7 (Nat.le_refl _)).up hb7.size
  replace hw := (hw.below hb7 (Nat.le_refl _)).up hb7.size
  clear hb7
  go_wp2_with fail
  refine (spec_SortsAll_any _ _ _ _ _ _ hl).mono ?_
  rintro e w8 ⟨rfl, hb8⟩
  rw [HA.out]
  replace hB := hB.trans (hb8.mono hB.size)
  replace h0 := (h0.below hb8 (Nat.le_refl _)).up hb8.size
  replace h1 := (h1.below hb8 (Nat.le_refl _)).up hb8.size
  replace hl := (hl.below hb8 (Nat.le_refl _)).up hb8.size
  replace hx := (hx.below hb8 (Nat.le_refl _)).up hb8.size
  replace hy := (hy.below hb8 (Nat.le_refl _)).up hb8.size
  replace hw := (hw.below hb8 (Nat.le_refl _)).up hb8.size
  clear hb8
  go_wp2_with fail
  refine (impl_FirstUnsorted_any _ _ _ _ _ _ hl).mono ?_
  rw [HU.out]
  rintro e w9 ⟨bou, nou, cou, rfl, ou, hb9⟩
  replace hB := hB.trans (hb9.mono hB.size)
  replace h0 := (h0.below hb9 (Nat.le_refl _)).up hb9.size
  replace h1 := (h1.below hb9 (Nat.le_refl _)).up hb9.size
  replace hl := (hl.below hb9 (Nat.le_refl _)).up hb9.size
  replace hx := (hx.below hb9 (Nat.le_refl _)).up hb9.size
  replace hy := (hy.below hb9 (Nat.le_refl _)).up hb9.size
  replace hw := (hw.below hb9 (Nat.le_refl _)).up hb9.size
  clear hb9
  have hu := ou.ints
  clear ou
  go_wp2_with fail
  refine (spec_FirstUnsorted_any _ _ _ _ _ _ hl).mono ?_
  rw [HU.out]
  rintro e w10 ⟨bof, nof, cof, rfl, of, hb10⟩
  replace hB := hB.trans (hb10.mono hB.size)
  replace h0 := (h0.below hb10 (Nat.le_refl _)).up hb10.size
  replace h1 := (h1.below hb10 (Nat.le_refl _)).up hb10.size
  replace hl := (hl.below hb10 (Nat.le_refl _)).up hb10.size
  replace hx := (hx.below hb10 (Nat.le_refl _)).up hb10.size
  replace hy := (hy.below hb10 (Nat.le_refl _)).up hb10.size
  replace hw := (hw.below hb10 (Nat.le_refl _)).up hb10.size
  replace hu := (hu.below hb10 (Nat.le_refl _)).up hb10.size
  clear hb10
  have hf := of.ints
  clear of
  have hnu : nou = nof := hu.1.symm.trans hf.1
  subst hnu
  go_upto_region 12 with fail
  go_cut [128] (fun s wx => s = .bool false ∧ Below w10.heap.size w10 wx)
  case first =>
    as_aux_lemma =>
      have hfin : Hid ((one && (so == three)) = false) := by
        show _ = _
        cases h1 : one
        · rfl
        · rw [P1.out h1]; rfl
      go_wp2_with fail
      refine (sameInts_q _ _ _ _ _ _ _ _ _ hu hf).mono ?_
      rintro e w' ⟨rfl, hq⟩
      have hb := hq.below w10.heap.size
      clear hq
      have hf2 := hfin.out
      cases one
      · go_wp2_with fail
        go_meet
        exact ⟨rfl, hb⟩
      · have hst : (so == three) = false := by simpa using hf2
        go_wp2_with fail
        go_meet
        exact ⟨rfl, hb⟩
  case rest =>
    obtain ⟨rfl, hb⟩ := hcut
    replace hB := hB.trans (hb.mono hB.size)
    replace h0 := (h0.below hb (Nat.le_refl _)).up hb.size
    replace h1 := (h1.below hb (Nat.le_refl _)).up hb.size
    replace hl := (hl.below hb (Nat.le_refl _)).up hb.size
    replace hx := (hx.below hb (Nat.le_refl _)).up hb.size
    replace hy := (hy.below hb (Nat.le_refl _)).up hb.size
    replace hw := (hw.below hb (Nat.le_refl _)).up hb.size
    replace hu := (hu.below hb (Nat.le_refl _)).up hb.size
    replace hf := (hf.below hb (Nat.le_refl _)).up hb.size
    clear hb
    clear HA HU P1 HIN
    obtain ⟨wa, rfl⟩ : ∃ wa : World, wa = wc := ⟨_, rfl⟩
    obtain ⟨gg, hgg⟩ : ∃ gg, gg = (ok && so) := ⟨_, rfl⟩
    have HGG := Lib.hid hgg
    clear hgg
    go_upto_region 14 with fail
    go_cut [132] (fun s wx => s = .bool gg ∧ Below wa.heap.size wa wx)
    case first =>
      as_aux_lemma =>
        have hg2 := HGG.out
        cases ok
        · obtain rfl : gg = false := by rw [hg2]; rfl
          clear hg2
          go_wp2_with fail
          go_meet
          exact ⟨rfl, Below.refl _ _⟩
        · obtain rfl : gg = so := by rw [hg2]; rfl
          clear hg2
          go_wp2_with fail
          go_meet
          exact ⟨rfl, Below.refl _ _⟩
    case rest =>
      obtain ⟨rfl, hb⟩ := hcut
      replace hB := hB.trans (hb.mono hB.size)
      replace h0 := (h0.below hb (Nat.le_refl _)).up hb.size
      replace h1 := (h1.below hb (Nat.le_refl _)).up hb.size
      replace hl := (hl.below hb (Nat.le_refl _)).up hb.size
      replace hx := (hx.below hb (Nat.le_refl _)).up hb.size
      replace hy := (hy.below hb (Nat.le_refl _)).up hb.size
      replace hw := (hw.below hb (Nat.le_refl _)).up hb.size
      replace hu := (hu.below hb (Nat.le_refl _)).up hb.size
      replace hf := (hf.below hb (Nat.le_refl _)).up hb.size
      clear hb
      obtain ⟨wd, rfl⟩ : ∃ wd : World, wd = wc := ⟨_, rfl⟩
      go_upto_if 132 with fail
      go_cut [20] (fun s wx => Below wd.heap.size wd wx)
      case first =>
        as_aux_lemma =>
          have hg2 := HGG.out
          cases gg
          · clear hg2
            go_wp2_with fail
            go_meet
            exact Below.refl _ _
          · have hsrt : sortedB y = true := by
              have h3 : ok = true ∧ so = true := by simpa using hg2.symm
              exact P2.out h3.1 h3.2
            clear hg2
            have HSRT := Lib.hid hsrt
            clear hsrt
            have hnw := hw.le
            go_wp2_with fail
            go_loopw [20] (fun i wx => ∃ k : Nat, 1 ≤ k ∧ k ≤ noy + 1 ∧ i = .int .i64 k ∧ QD wd wx) (fun i _ => noy - (intOf i).toNat)
            case atStart => exact ⟨1, Nat.le_refl _, by omega, rfl, QD.refl _⟩
            case round =>
              obtain ⟨k, hk1, hk, rfl, hq⟩ := hrel
              by_cases hlt : k < noy
              · obtain ⟨b1, o1, x1, rfl, hb1, hx1, hc1⟩ := (hw.below (hq.below _) (Nat.le_refl _)).at (k := k - 1) (by omega)
                obtain ⟨x2, hx2, hc2⟩ := (hw.below (hq.below _) (Nat.le_refl _)).at' hlt
                have hle := sortedB_at HSRT.out hx1 (by rw [show k - 1 + 1 = k by omega]; exact hx2)
                have hkk : ((k : Int) - 1).toNat = k - 1 := by omega
                have hk0 : (0 : Int) ≤ (k : Int) - 1 := by omega
                have hk2 : (k : Int) - 1 < noy := by omega
                have hgt : decide (x2 < x1) = false := by simp; omega
                clear hx1 hx2
                go_wp2_with fail
                go_quiet (fail)
                have hqd := hq.drewN nq
                generalize wr.drewN nq = we at hqd ⊢
                clear hc1 hc2
                go_wp2_with fail
                go_roundw
                case rel => exact ⟨k + 1, by omega, by omega, by go_num, hqd⟩
                case measure => simp [intOf] <;> omega
              · go_wp2_with fail
                go_meet
                exact hq.below _
      case rest =>
        have hb := hcut
        clear hcut P2
        replace hB := hB.trans (hb.mono hB.size)
        replace h0 := (h0.below hb (Nat.le_refl _)).up hb.size
        replace h1 := (h1.below hb (Nat.le_refl _)).up hb.size
        replace hl := (hl.below hb (Nat.le_refl _)).up hb.size
        replace hx := (hx.below hb (Nat.le_refl _)).up hb.size
        replace hy := (hy.below hb (Nat.le_refl _)).up hb.size
        replace hw := (hw.below hb (Nat.le_refl _)).up hb.size
        replace hu := (hu.below hb (Nat.le_refl _)).up hb.size
        replace hf := (hf.below hb (Nat.le_refl _)).up hb.size
        clear hb
        obtain ⟨wb, rfl⟩ : ∃ wb : World, wb = wc := ⟨_, rfl⟩
        go_upto_if 149 with fail
        go_cut [23] (fun s wx => Below wb.heap.size wb wx)
        case first =>
          as_aux_lemma =>
            cases three
            · go_wp2_with fail
              go_meet
              exact Below.refl _ _
            · obtain ⟨z, hz1, hz2, hz3, hz4⟩ := P3.out rfl
              have HZ1 := Lib.hid hz1
              have HZ3 := Lib.hid hz3
              obtain ⟨nn, rfl⟩ := Int.eq_ofNat_of_zero_le (show 0 ≤ n by omega)
              have hnn : z.length = nn := by omega
              have hn1 : 1 ≤ nn := by omega
              have HNN := Lib.hid hnn
              clear hz1 hz2 hz3 hz4 hnn
              go_wp2_with fail
              refine (impl_SortWith_any _ _ _ _ _ _ _ _ _ _ hl hf).mono ?_
              rw [HZ1.out]
              rintro e wz ⟨boz, noz, coz, rfl, oz, hbz⟩
              obtain rfl : nn = noz := HNN.out.symm.trans oz.1
              have hz := oz.ints
              have hzl := hz.le
              clear oz
              go_wp2_with fail
              go_loopw [23, 24] (fun fb i wx => ∃ (k : Nat) (f : Bool), 1 ≤ k ∧ k ≤ nn ∧ i = .int .i64 k ∧ fb = .bool f ∧ Hid (f = fallB z k) ∧ QD wz wx) (fun _ i _ => nn - (intOf i).toNat)
              case atStart => exact ⟨1, false, Nat.le_refl _, hn1, rfl, rfl, by simp [Hid, fallB_one], QD.refl _⟩
              case round =>
                obtain ⟨k, f, hk1, hk, rfl, rfl, hfb, hq⟩ := hrel
                by_cases hlt : k < nn
                · obtain ⟨b1, o1, x1, rfl, hb1, hx1, hc1⟩ := (hz.below (hq.below _) (Nat.le_refl _)).at (k := k - 1) (by omega)
                  obtain ⟨x2, hx2, hc2⟩ := (hz.below (hq.below _) (Nat.le_refl _)).at' hlt
                  have hst := fallB_step hx1 (by rw [show k - 1 + 1 = k by omega]; exact hx2)
                  rw [show k - 1 + 2 = k + 1 by omega, show k - 1 + 1 = k by omega, ← hfb.out] at hst
                  have HST := Lib.hid hst
                  have hkk : ((k : Int) - 1).toNat = k - 1 := by omega
                  have hk0 : (0 : Int) ≤ (k : Int) - 1 := by omega
                  have hk2 : (k : Int) - 1 < nn := by omega
                  clear hx1 hx2 hst
                  cases f
                  · go_wp2_with fail
                    go_quiet (fail)
                    have hqd := hq.drewN nq
                    generalize wr.drewN nq = we at hqd ⊢
                    clear hc1 hc2
                    go_wp2_with fail
                    go_roundw
                    case rel => exact ⟨k + 1, _, by omega, by omega, by go_num, rfl, by show _ = _; rw [HST.out]; simp, hqd⟩
                    case measure => simp [intOf] <;> omega
                  · go_wp2_with fail
                    go_quiet (fail)
                    have hqd := hq.drewN nq
                    generalize wr.drewN nq = we at hqd ⊢
                    clear hc1 hc2
                    go_wp2_with fail
                    go_roundw
                    case rel => exact ⟨k + 1, _, by omega, by omega, by go_num, rfl, by show _ = _; rw [HST.out]; rfl, hqd⟩
                    case measure => simp [intOf] <;> omega
                · have hk3 : k = nn := by omega
                  have hft : f = true := by
                    rw [hfb.out, hk3]
                    have := fallB_sorted HZ3.out
                    rw [HNN.out] at this
                    exact this
                  subst hft
                  go_wp2_with fail
                  go_meet
                  exact hbz.trans ((hq.below _).mono hbz.size)
        case rest =>
          have hb := hcut
          clear hcut P3
          replace hB := hB.trans (hb.mono hB.size)
          replace h0 := (h0.below hb (Nat.le_refl _)).up hb.size
          replace h1 := (h1.below hb (Nat.le_refl _)).up hb.size
          replace hl := (hl.below hb (Nat.le_refl _)).up hb.size
          replace hx := (hx.below hb (Nat.le_refl _)).up hb.size
          replace hy := (hy.below hb (Nat.le_refl _)).up hb.size
          replace hw := (hw.below hb (Nat.le_refl _)).up hb.size
          replace hu := (hu.below hb (Nat.le_refl _)).up hb.size
          replace hf := (hf.below hb (Nat.le_refl _)).up hb.size
          clear hb
          clear hl hx hy hw hu hf HS HLL HGG
          obtain ⟨w20, rfl⟩ : ∃ w : World, w = wc := ⟨_, rfl⟩
          go_wp2_with fail
          refine (DrawLayersOf_any _ _ _ _ _ h1).mono ?_
          rintro e w21 ⟨m, ks, bk, lk, ck, rfl, hk, hlk, hb21⟩
          replace hB := hB.trans (hb21.mono hB.size)
          replace h0 := (h0.below hb21 (Nat.le_refl _)).up hb21.size
          replace h1 := (h1.below hb21 (Nat.le_refl _)).up hb21.size
          clear hb21
          obtain ⟨rows, okL, hL⟩ : ∃ r o, layersF m ks = (r, o) := ⟨_, _, rfl⟩
          obtain ⟨lb1, lb2, lb3⟩ := layersF_back hk.1 hL
          have HLB1 := Lib.hid lb1
          have HLB3 := Lib.hid lb3
          have HL := Lib.hid hL
          have hsl := Lib.hid (steps_length lk ks hk.1)
          clear hL lb1 lb3
          go_wp2_with fail
          refine (impl_LayersOf_any _ _ _ _ _ _ hk).mono ?_
          rw [HL.out]
          rintro e w22 ⟨boi, noi, coi, hsi, rfl, hri, hb22⟩
          replace hB := hB.trans (hb22.mono hB.size)
          replace h0 := (h0.below hb22 (Nat.le_refl _)).up hb22.size
          replace h1 := (h1.below hb22 (Nat.le_refl _)).up hb22.size
          replace hk := (hk.below hb22 (Nat.le_refl _)).up hb22.size
          clear hb22
          have hi := hri.rowsR
          clear hri
          go_wp2_with fail
          refine (spec_LayersOf_any _ _ _ _ _ _ hk).mono ?_
          rw [HL.out]
          rintro e w23 ⟨boj, noj, coj, hsj, rfl, hrj, hb23⟩
          replace hB := hB.trans (hb23.mono hB.size)
          replace h0 := (h0.below hb23 (Nat.le_refl _)).up hb23.size
          replace h1 := (h1.below hb23 (Nat.le_refl _)).up hb23.size
          replace hk := (hk.below hb23 (Nat.le_refl _)).up hb23.size
          replace hi := (hi.below hb23 (Nat.le_refl _)).up hb23.size
          clear hb23
          have hj := hrj.rowsR
          clear hrj
          have hnj : noi = noj := hi.1.symm.trans hj.1
          subst hnj
          go_wp2_with fail
          refine (sameLists_same _ _ _ _ _ _ _ _ _ hi hj).mono ?_
          rintro e w24 ⟨rfl, hq⟩
          have hb := hq.below w23.heap.size
          clear hq
          replace hB := hB.trans (hb.mono hB.size)
          replace h0 := (h0.below hb (Nat.le_refl _)).up hb.size
          replace h1 := (h1.below hb (Nat.le_refl _)).up hb.size
          replace hk := (hk.below hb (Nat.le_refl _)).up hb.size
          replace hi := (hi.below hb (Nat.le_refl _)).up hb.size
          replace hj := (hj.below hb (Nat.le_refl _)).up hb.size
          clear hb
          clear hi
          have hnl := Lib.hid hj.1
          have hn6 := hj.2.1
          go_wp2_with fail
          go_loopw [31, 213] (fun s i wx => ∃ j : Nat, j ≤ noi ∧ i = .int .i64 j ∧ s = .int .i64 (tot (rows.take j) : Nat) ∧ Below w24.heap.size w24 wx) (fun _ i _ => noi - (intOf i).toNat)
          case atStart => exact ⟨0, Nat.zero_le _, rfl, by simp [tot], Below.refl _ _⟩
          case round =>
            obtain ⟨j, hjn, rfl, rfl, hbel⟩ := hrel
            by_cases hlt : j < noi
            · obtain ⟨b1, o1, l, xo, xc, rfl, hb1, hl, hc1, hil⟩ := (hj.below hbel (Nat.le_refl _)).at hlt
              have HTS := Lib.hid (tot_step hl)
              have htk := tot_take_le rows j
              have htk2 := tot_take_le rows (j + 1)
              have hll : tot (rows.take j) + l.length ≤ 60 := by rw [HTS.out] at htk2; omega
              have HOK := Lib.hid (HLB3.out j l hl)
              have hkr := hk.below hbel (Nat.le_refl _)
              obtain ⟨t, hT⟩ : ∃ t, t = tot (rows.take j) := ⟨_, rfl⟩
              rw [← hT] at HTS hll htk ⊢
              have hzr := hbel.size
              clear hl hT htk2
              obtain ⟨wq, rfl⟩ : ∃ w : World, w = wr := ⟨_, rfl⟩
              go_wp2_with fail
              go_loopw [34, 223] (fun s i wx => ∃ (q m2 : Nat) (ao : Option Addr) (cap : Nat), q ≤ l.length ∧ m2 ≤ 2 * q ∧ i = .int .i64 q ∧ s = .slice ao m2 cap ∧ OwnI wq.heap.size wx ao m2 cap (lns (steps ks) (l.take q)) ∧ Below wq.heap.size wq wx) (fun _ i _ => l.length - (intOf i).toNat)
              case atStart => exact ⟨0, 0, _, _, Nat.zero_le _, Nat.le_refl _, rfl, rfl, by simpa [lns] using OwnI.nil _ _ _, Below.refl _ _⟩
              case round =>
                obtain ⟨q, m2, ao, cap, hq, hm2, rfl, rfl, ho, hbq⟩ := hrel
                by_cases hql : q < l.length
                · obtain ⟨b2, o2, iv, rfl, hb2, hiv, hc2⟩ := (hil.below hbq (by omega)).at hql
                  obtain ⟨mm, x, y, rfl, hst, hnx, hny⟩ := HOK.out q iv hiv
                  have hml : mm < lk := by rw [← hsl.out]; exact (List.getElem?_eq_some_iff.1 hst).1
                  obtain ⟨b3, o3, x', y', rfl, hb3, hst2, c0, c1⟩ := (hkr.below hbq (by omega)).step hml
                  obtain ⟨rfl, rfl⟩ : x = x' ∧ y = y' := by rw [hst] at hst2; simpa using hst2
                  have HTK := Lib.hid (show lns (steps ks) (l.take (q + 1)) = lns (steps ks) (l.take q) ++ [x, y] by rw [List.take_add_one, hiv]; exact lns_snoc _ _ hst)
                  have hp1 : inL x (lns (steps ks) (l.take q)) = false := by unfold inL; exact decide_eq_false hnx
                  have hp2 : inL y (lns (steps ks) (l.take q)) = false := by unfold inL; exact decide_eq_false hny
                  have HP1 := Lib.hid hp1
                  have HP2 := Lib.hid hp2
                  clear hiv hst hst2 hnx hny hp1 hp2 hc1
                  go_wp2_with fail
                  refine (pIn_any _ _ _ _ _ _ _ ho.ints).mono ?_
                  rintro e w' ⟨rfl, rfl⟩
                  rw [HP1.out]
                  go_wp2_with fail
                  refine (pIn_any _ _ _ _ _ _ _ ho.ints).mono ?_
                  rintro e w' ⟨rfl, rfl⟩
                  rw [HP2.out]
                  go_wp2_with fail
                  have ho1 := ho.below (bdrewN (Below.refl wr.heap.size wr) 1) (Nat.le_refl _)
                  have hb1q := bdrewN hbq 1
                  go_region_law (refine step_append_ii rfl _ _ rfl wq.heap.size _ _ _ _ _ _ rfl (by first | rfl | (simp; rfl)) ho1 (by omega) hb1q.size ?_; intro ao' cap' w4 hown4 hg4)
                  all_goals
                    have hbr4 := below_append hb1q ho1.2.2 hg4 hb1q.size
                    go_wp2_with fail
                    go_roundw
                    case rel => exact ⟨q + 1, m2 + 2, ao', cap', by omega, by omega, by go_num, rfl, by rw [HTK.out]; exact hown4, hbr4⟩
                    case measure => simp [intOf] <;> omega
                · obtain rfl : q = l.length := by omega
                  go_wp2_with fail
                  go_roundw
                  case rel => exact ⟨j + 1, by omega, by go_num, by rw [HTS.out]; congr 1, hbel.trans (hbq.mono hbel.size)⟩
                  case measure => simp [intOf] <;> omega
            · have hjn2 : j = noi := by omega
              have htt : tot (rows.take j) = tot rows := by rw [List.take_of_length_le (by rw [hnl.out, hjn2]; exact Nat.le_refl _)]
              rw [htt]
              cases okL
              · go_wp2_with fail
                go_ret
                exact ⟨rfl, hB.trans (hbel.mono hB.size)⟩
              · have hte := HLB1.out rfl
                rw [hte]
                go_wp2_with fail
                go_ret
                exact ⟨rfl, hB.trans (hbel.mono hB.size)⟩
end Go.Proofs.Ytilkgidilhgjeaa
