/-
  The law on digests: its walk (printed by gen_draw.py).
-/
import Derived.Test.YtilkgidilhgjeaaDr5
namespace Go.Proofs.Ytilkgidilhgjeaa
open Go.RowKit
set_option linter.unusedVariables false
set_option linter.unusedSimpArgs false

theorem digest_back {xs : List Int} {d : Int} {ok : Bool} (h : digestF xs = (d, ok)) : ok = true → 0 ≤ d ∧ d ≤ 65535 := by
  unfold digestF at h
  split at h
  · simp only [Prod.mk.injEq] at h
    obtain ⟨rfl, _⟩ := h
    exact fun _ => mixL_bd xs
  · simp only [Prod.mk.injEq] at h
    obtain ⟨_, rfl⟩ := h
    intro h; cases h
theorem count_back {first n c : Int} (h : countF first n = (c, true)) : c ≤ n ∧ (0 < n → 1 ≤ c) := by
  unfold countF at h
  split at h
  · rename_i hok
    obtain ⟨h0, _, _, _, _⟩ := cntOk_facts hok
    simp only [Prod.mk.injEq, and_true] at h
    have h1 := putAll_length (seqL first n.toNat)
    rw [seqL_length] at h1
    refine ⟨by omega, fun hp => ?_⟩
    have h2 := putAll_pos (xs := seqL first n.toNat) (by
      intro e
      have := seqL_length first n.toNat
      rw [e] at this
      simp at this
      omega)
    omega
  · simp at h
set_option maxRecDepth 100000 in
set_option maxHeartbeats 20000000 in
theorem walk_FnDigests (a0 : Option Addr) (n0 c0 : Nat) (z0 : List Int) (a1 : Option Addr) (n1 c1 : Nat) (z1 : List Int) (w0 : World) (hA0 : BytesArg w0 a0 n0 z0) (hA1 : BytesArg w0 a1 n1 z1) : Calls Try.prog 7 #[.slice a0 n0 c0, .slice a1 n1 c1] w0 (RetB true w0) := by
  cases hbig : bigF n0 n1
  rotate_left
  · go_enter Try.func7, Try.ntmps7
    go_wp2_with fail
    refine (big_any _ _ _ _ _ _ _ hA0.2.1 hA1.2.1).mono ?_
    rintro e w' ⟨rfl, rfl⟩
    rw [hbig]
    go_wp2_with fail
    go_ret
    exact ⟨rfl, Below.refl _ _⟩
  obtain ⟨g0, g1⟩ := bigF_no hbig
  have h0 := hA0.bytes g0
  have h1 := hA1.bytes g1
  have hm0 := hA0.2.1
  have hm1 := hA1.2.1
  clear hA0 hA1
  have hB : Below w0.heap.size w0 w0 := Below.refl _ _
  go_enter Try.func7, Try.ntmps7
  go_wp2_with fail
  refine (big_any _ _ _ _ _ _ _ hm0 hm1).mono ?_
  rintro e w' ⟨rfl, rfl⟩
  rw [hbig]
  go_wp2_with fail
  refine (DrawDigestOf_any _ _ _ _ _ h0).mono ?_
  rintro e w1 ⟨xl, bl, nl, cl, rfl, hl, hnl, hb1⟩
  replace hB := hB.trans (hb1.mono hB.size)
  replace h0 := (h0.below hb1 (Nat.le_refl _)).up hb1.size
  replace h1 := (h1.below hb1 (Nat.le_refl _)).up hb1.size
  clear hb1
  obtain ⟨d, okD, hD⟩ : ∃ r o, digestF xl = (r, o) := ⟨_, _, rfl⟩
  have HDB := Lib.hid (digest_back hD)
  have HD := Lib.hid hD
  clear hD
  go_wp2_with fail
  refine (impl_DigestOf_any _ _ _ _ _ hl).mono ?_
  rw [HD.out]
  rintro e w2 ⟨rfl, hb2⟩
  replace hB := hB.trans (hb2.mono hB.size)
  replace h0 := (h0.below hb2 (Nat.le_refl _)).up hb2.size
  replace h1 := (h1.below hb2 (Nat.le_refl _)).up hb2.size
  replace hl := (hl.below hb2 (Nat.le_refl _)).up hb2.size
  clear hb2
  go_wp2_with fail
  refine (spec_DigestOf_any _ _ _ _ _ hl).mono ?_
  rw [HD.out]
  rintro e w3 ⟨rfl, hb3⟩
  replace hB := hB.trans (hb3.mono hB.size)
  replace h0 := (h0.below hb3 (Nat.le_refl _)).up hb3.size
  replace h1 := (h1.below hb3 (Nat.le_refl _)).up hb3.size
  replace hl := (hl.below hb3 (Nat.le_refl _)).up hb3.size
  clear hb3
  cases okD
  · skip
    go_wp2_with fail
    refine (DrawLabelFor_any _ _ _ _ _ h1).mono ?_
    rintro e w4 ⟨lk, lt, la, lb, rfl, hb4⟩
    replace hB := hB.trans (hb4.mono hB.size)
    replace h0 := (h0.below hb4 (Nat.le_refl _)).up hb4.size
    replace h1 := (h1.below hb4 (Nat.le_refl _)).up hb4.size
    replace hl := (hl.below hb4 (Nat.le_refl _)).up hb4.size
    clear hb4
    obtain ⟨x, okL, hL⟩ : ∃ r o, labelF lk lt la lb = (r, o) := ⟨_, _, rfl⟩
    have HL := Lib.hid hL
    clear hL
    go_wp2_with fail
    refine (impl_LabelFor_any _ _ _ _ _).mono ?_
    rw [HL.out]
    rintro e w5 ⟨rfl, hb5⟩
    replace hB := hB.trans (hb5.mono hB.size)
    replace h0 := (h0.below hb5 (Nat.le_refl _)).up hb5.size
    replace h1 := (h1.below hb5 (Nat.le_refl _)).up hb5.size
    replace hl := (hl.below hb5 (Nat.le_refl _)).up hb5.size
    clear hb5
    go_wp2_with fail
    refine (spec_LabelFor_any _ _ _ _ _).mono ?_
    rw [HL.out]
    rintro e w6 ⟨rfl, hb6⟩
    replace hB := hB.trans (hb6.mono hB.size)
    replace h0 := (h0.below hb6 (Nat.le_refl _)).up hb6.size
    replace h1 := (h1.below hb6 (Nat.le_refl _)).up hb6.size
    replace hl := (hl.below hb6 (Nat.le_refl _)).up hb6.size
    clear hb6
    cases okL
    · skip
      go_wp2_with fail
      refine (DrawCountDigests_any _ _ _ _ _ h1).mono ?_
      rintro e w7 ⟨fi, ct, rfl, hb7⟩
      replace hB := hB.trans (hb7.mono hB.size)
      replace h0 := (h0.below hb7 (Nat.le_refl _)).up hb7.size
      replace h1 := (h1.below hb7 (Nat.le_refl _)).up hb7.size
      replace hl := (hl.below hb7 (Nat.le_refl _)).up hb7.size
      clear hb7
      obtain ⟨c, okC, hC⟩ : ∃ r o, countF fi ct = (r, o) := ⟨_, _, rfl⟩
      have HC := Lib.hid hC
      clear hC
      go_wp2_with fail
      refine (impl_CountDigests_any _ _ _).mono ?_
      rw [HC.out]
      rintro e w8 ⟨rfl, hb8⟩
      replace hB := hB.trans (hb8.mono hB.size)
      replace h0 := (h0.below hb8 (Nat.le_refl _)).up hb8.size
      replace h1 := (h1.below hb8 (Nat.le_refl _)).up hb8.size
      replace hl := (hl.below hb8 (Nat.le_refl _)).up hb8.size
      clear hb8
      go_wp2_with fail
      refine (spec_CountDigests_any _ _ _).mono ?_
      rw [HC.out]
      rintro e w9 ⟨rfl, hb9⟩
      replace hB := hB.trans (hb9.mono hB.size)
      replace h0 := (h0.below hb9 (Nat.le_refl _)).up hb9.size
      replace h1 := (h1.below hb9 (Nat.le_refl _)).up hb9.size
      replace hl := (hl.below hb9 (Nat.le_refl _)).up hb9.size
      clear hb9
      cases okC
      · skip
        go_wp2_with fail
        refine (DrawTextDigest_any _ _ _ _ _ h1).mono ?_
        rintro e w10 ⟨st, rfl, hst, hb10⟩
        replace hB := hB.trans (hb10.mono hB.size)
        replace h0 := (h0.below hb10 (Nat.le_refl _)).up hb10.size
        replace h1 := (h1.below hb10 (Nat.le_refl _)).up hb10.size
        replace hl := (hl.below hb10 (Nat.le_refl _)).up hb10.size
        clear hb10
        go_wp2_with fail
        refine (impl_TextDigest_any _ _ (by omega)).mono ?_
        rintro e w' ⟨rfl, rfl⟩
        go_wp2_with fail
        refine (spec_TextDigest_any _ _ (by omega)).mono ?_
        rintro e w' ⟨rfl, rfl⟩
        go_wp2_with fail
        go_ret
        exact ⟨ret_bool (by simp), hB⟩
      · skip
        obtain ⟨hcn, hc1⟩ := count_back HC.out
        by_cases hp : 0 < ct
        · skip
          have hcp := hc1 hp
          clear hc1
          go_wp2_with fail
          refine (DrawTextDigest_any _ _ _ _ _ h1).mono ?_
          rintro e w10 ⟨st, rfl, hst, hb10⟩
          replace hB := hB.trans (hb10.mono hB.size)
          replace h0 := (h0.below hb10 (Nat.le_refl _)).up hb10.size
          replace h1 := (h1.below hb10 (Nat.le_refl _)).up hb10.size
          replace hl := (hl.below hb10 (Nat.le_refl _)).up hb10.size
          clear hb10
          go_wp2_with fail
          refine (impl_TextDigest_any _ _ (by omega)).mono ?_
          rintro e w' ⟨rfl, rfl⟩
          go_wp2_with fail
          refine (spec_TextDigest_any _ _ (by omega)).mono ?_
          rintro e w' ⟨rfl, rfl⟩
          go_wp2_with fail
          go_ret
          exact ⟨ret_bool (by simp), hB⟩
        · skip
          clear hc1
          go_wp2_with fail
          refine (DrawTextDigest_any _ _ _ _ _ h1).mono ?_
          rintro e w10 ⟨st, rfl, hst, hb10⟩
          replace hB := hB.trans (hb10.mono hB.size)
          replace h0 := (h0.below hb10 (Nat.le_refl _)).up hb10.size
          replace h1 := (h1.below hb10 (Nat.le_refl _)).up hb10.size
          replace hl := (hl.below hb10 (Nat.le_refl _)).up hb10.size
          clear hb10
          go_wp2_with fail
          refine (impl_TextDigest_any _ _ (by omega)).mono ?_
          rintro e w' ⟨rfl, rfl⟩
          go_wp2_with fail
          refine (spec_TextDigest_any _ _ (by omega)).mono ?_
          rintro e w' ⟨rfl, rfl⟩
          go_wp2_with fail
          go_ret
          exact ⟨ret_bool (by simp), hB⟩
    · skip
      have HLD : Hid (digestF [lk, lt, la, lb] = (x, true)) := HL
      have hI := Lib.hid (ints_lit w6 [lk, lt, la, lb] (by simp))
      have hal : Below w6.heap.size w6 (w6.alloc (.cells #[.int .i64 lk, .int .i64 lt, .int .i64 la, .int .i64 lb] 3)) := (Below.refl _ _).alloc (Nat.le_refl _) _
      replace hB := hB.trans (hal.mono hB.size)
      replace h0 := (h0.below hal (Nat.le_refl _)).up hal.size
      replace h1 := (h1.below hal (Nat.le_refl _)).up hal.size
      replace hl := (hl.below hal (Nat.le_refl _)).up hal.size
      clear hal
      go_wp2_with fail
      refine (impl_DigestOf_any _ _ _ _ _ hI.out).mono ?_
      rw [HLD.out]
      rintro e w7 ⟨rfl, hb7⟩
      replace hB := hB.trans (hb7.mono hB.size)
      replace h0 := (h0.below hb7 (Nat.le_refl _)).up hb7.size
      replace h1 := (h1.below hb7 (Nat.le_refl _)).up hb7.size
      replace hl := (hl.below hb7 (Nat.le_refl _)).up hb7.size
      clear hb7
      go_wp2_with fail
      refine (DrawCountDigests_any _ _ _ _ _ h1).mono ?_
      rintro e w8 ⟨fi, ct, rfl, hb8⟩
      replace hB := hB.trans (hb8.mono hB.size)
      replace h0 := (h0.below hb8 (Nat.le_refl _)).up hb8.size
      replace h1 := (h1.below hb8 (Nat.le_refl _)).up hb8.size
      replace hl := (hl.below hb8 (Nat.le_refl _)).up hb8.size
      clear hb8
      obtain ⟨c, okC, hC⟩ : ∃ r o, countF fi ct = (r, o) := ⟨_, _, rfl⟩
      have HC := Lib.hid hC
      clear hC
      go_wp2_with fail
      refine (impl_CountDigests_any _ _ _).mono ?_
      rw [HC.out]
      rintro e w9 ⟨rfl, hb9⟩
      replace hB := hB.trans (hb9.mono hB.size)
      replace h0 := (h0.below hb9 (Nat.le_refl _)).up hb9.size
      replace h1 := (h1.below hb9 (Nat.le_refl _)).up hb9.size
      replace hl := (hl.below hb9 (Nat.le_refl _)).up hb9.size
      clear hb9
      go_wp2_with fail
      refine (spec_CountDigests_any _ _ _).mono ?_
      rw [HC.out]
      rintro e w10 ⟨rfl, hb10⟩
      replace hB := hB.trans (hb10.mono hB.size)
      replace h0 := (h0.below hb10 (Nat.le_refl _)).up hb10.size
      replace h1 := (h1.below hb10 (Nat.le_refl _)).up hb10.size
      replace hl := (hl.below hb10 (Nat.le_refl _)).up hb10.size
      clear hb10
      cases okC
      · skip
        go_wp2_with fail
        refine (DrawTextDigest_any _ _ _ _ _ h1).mono ?_
        rintro e w11 ⟨st, rfl, hst, hb11⟩
        replace hB := hB.trans (hb11.mono hB.size)
        replace h0 := (h0.below hb11 (Nat.le_refl _)).up hb11.size
        replace h1 := (h1.below hb11 (Nat.le_refl _)).up hb11.size
        replace hl := (hl.below hb11 (Nat.le_refl _)).up hb11.size
        clear hb11
        go_wp2_with fail
        refine (impl_TextDigest_any _ _ (by omega)).mono ?_
        rintro e w' ⟨rfl, rfl⟩
        go_wp2_with fail
        refine (spec_TextDigest_any _ _ (by omega)).mono ?_
        rintro e w' ⟨rfl, rfl⟩
        go_wp2_with fail
        go_ret
        exact ⟨ret_bool (by simp), hB⟩
      · skip
        obtain ⟨hcn, hc1⟩ := count_back HC.out
        by_cases hp : 0 < ct
        · skip
          have hcp := hc1 hp
          clear hc1
          go_wp2_with fail
          refine (DrawTextDigest_any _ _ _ _ _ h1).mono ?_
          rintro e w11 ⟨st, rfl, hst, hb11⟩
          replace hB := hB.trans (hb11.mono hB.size)
          replace h0 := (h0.below hb11 (Nat.le_refl _)).up hb11.size
          replace h1 := (h1.below hb11 (Nat.le_refl _)).up hb11.size
          replace hl := (hl.below hb11 (Nat.le_refl _)).up hb11.size
          clear hb11
          go_wp2_with fail
          refine (impl_TextDigest_any _ _ (by omega)).mono ?_
          rintro e w' ⟨rfl, rfl⟩
          go_wp2_with fail
          refine (spec_TextDigest_any _ _ (by omega)).mono ?_
          rintro e w' ⟨rfl, rfl⟩
          go_wp2_with fail
          go_ret
          exact ⟨ret_bool (by simp), hB⟩
        · skip
          clear hc1
          go_wp2_with fail
          refine (DrawTextDigest_any _ _ _ _ _ h1).mono ?_
          rintro e w11 ⟨st, rfl, hst, hb11⟩
          replace hB := hB.trans (hb11.mono hB.size)
          replace h0 := (h0.below hb11 (Nat.le_refl _)).up hb11.size
          replace h1 := (h1.below hb11 (Nat.le_refl _)).up hb11.size
          replace hl := (hl.below hb11 (Nat.le_refl _)).up hb11.size
          clear hb11
          go_wp2_with fail
          refine (impl_TextDigest_any _ _ (by omega)).mono ?_
          rintro e w' ⟨rfl, rfl⟩
          go_wp2_with fail
          refine (spec_TextDigest_any _ _ (by omega)).mono ?_
          rintro e w' ⟨rfl, rfl⟩
          go_wp2_with fail
          go_ret
          exact ⟨ret_bool (by simp), hB⟩
  · skip
    obtain ⟨hd0, hd1⟩ := HDB.out rfl
    go_wp2_with fail
    refine (DrawLabelFor_any _ _ _ _ _ h1).mono ?_
    rintro e w4 ⟨lk, lt, la, lb, rfl, hb4⟩
    replace hB := hB.trans (hb4.mono hB.size)
    replace h0 := (h0.below hb4 (Nat.le_refl _)).up hb4.size
    replace h1 := (h1.below hb4 (Nat.le_refl _)).up hb4.size
    replace hl := (hl.below hb4 (Nat.le_refl _)).up hb4.size
    clear hb4
    obtain ⟨x, okL, hL⟩ : ∃ r o, labelF lk lt la lb = (r, o) := ⟨_, _, rfl⟩
    have HL := Lib.hid hL
    clear hL
    go_wp2_with fail
    refine (impl_LabelFor_any _ _ _ _ _).mono ?_
    rw [HL.out]
    rintro e w5 ⟨rfl, hb5⟩
    replace hB := hB.trans (hb5.mono hB.size)
    replace h0 := (h0.below hb5 (Nat.le_refl _)).up hb5.size
    replace h1 := (h1.below hb5 (Nat.le_refl _)).up hb5.size
    replace hl := (hl.below hb5 (Nat.le_refl _)).up hb5.size
    clear hb5
    go_wp2_with fail
    refine (spec_LabelFor_any _ _ _ _ _).mono ?_
    rw [HL.out]
    rintro e w6 ⟨rfl, hb6⟩
    replace hB := hB.trans (hb6.mono hB.size)
    replace h0 := (h0.below hb6 (Nat.le_refl _)).up hb6.size
    replace h1 := (h1.below hb6 (Nat.le_refl _)).up hb6.size
    replace hl := (hl.below hb6 (Nat.le_refl _)).up hb6.size
    clear hb6
    cases okL
    · skip
      go_wp2_with fail
      refine (DrawCountDigests_any _ _ _ _ _ h1).mono ?_
      rintro e w7 ⟨fi, ct, rfl, hb7⟩
      replace hB := hB.trans (hb7.mono hB.size)
      replace h0 := (h0.below hb7 (Nat.le_refl _)).up hb7.size
      replace h1 := (h1.below hb7 (Nat.le_refl _)).up hb7.size
      replace hl := (hl.below hb7 (Nat.le_refl _)).up hb7.size
      clear hb7
      obtain ⟨c, okC, hC⟩ : ∃ r o, countF fi ct = (r, o) := ⟨_, _, rfl⟩
      have HC := Lib.hid hC
      clear hC
      go_wp2_with fail
      refine (impl_CountDigests_any _ _ _).mono ?_
      rw [HC.out]
      rintro e w8 ⟨rfl, hb8⟩
      replace hB := hB.trans (hb8.mono hB.size)
      replace h0 := (h0.below hb8 (Nat.le_refl _)).up hb8.size
      replace h1 := (h1.below hb8 (Nat.le_refl _)).up hb8.size
      replace hl := (hl.below hb8 (Nat.le_refl _)).up hb8.size
      clear hb8
      go_wp2_with fail
      refine (spec_CountDigests_any _ _ _).mono ?_
      rw [HC.out]
      rintro e w9 ⟨rfl, hb9⟩
      replace hB := hB.trans (hb9.mono hB.size)
      replace h0 := (h0.below hb9 (Nat.le_refl _)).up hb9.size
      replace h1 := (h1.below hb9 (Nat.le_refl _)).up hb9.size
      replace hl := (hl.below hb9 (Nat.le_refl _)).up hb9.size
      clear hb9
      cases okC
      · skip
        go_wp2_with fail
        refine (DrawTextDigest_any _ _ _ _ _ h1).mono ?_
        rintro e w10 ⟨st, rfl, hst, hb10⟩
        replace hB := hB.trans (hb10.mono hB.size)
        replace h0 := (h0.below hb10 (Nat.le_refl _)).up hb10.size
        replace h1 := (h1.below hb10 (Nat.le_refl _)).up hb10.size
        replace hl := (hl.below hb10 (Nat.le_refl _)).up hb10.size
        clear hb10
        go_wp2_with fail
        refine (impl_TextDigest_any _ _ (by omega)).mono ?_
        rintro e w' ⟨rfl, rfl⟩
        go_wp2_with fail
        refine (spec_TextDigest_any _ _ (by omega)).mono ?_
        rintro e w' ⟨rfl, rfl⟩
        go_wp2_with fail
        go_ret
        exact ⟨ret_bool (by simp), hB⟩
      · skip
        obtain ⟨hcn, hc1⟩ := count_back HC.out
        by_cases hp : 0 < ct
        · skip
          have hcp := hc1 hp
          clear hc1
          go_wp2_with fail
          refine (DrawTextDigest_any _ _ _ _ _ h1).mono ?_
          rintro e w10 ⟨st, rfl, hst, hb10⟩
          replace hB := hB.trans (hb10.mono hB.size)
          replace h0 := (h0.below hb10 (Nat.le_refl _)).up hb10.size
          replace h1 := (h1.below hb10 (Nat.le_refl _)).up hb10.size
          replace hl := (hl.below hb10 (Nat.le_refl _)).up hb10.size
          clear hb10
          go_wp2_with fail
          refine (impl_TextDigest_any _ _ (by omega)).mono ?_
          rintro e w' ⟨rfl, rfl⟩
          go_wp2_with fail
          refine (spec_TextDigest_any _ _ (by omega)).mono ?_
          rintro e w' ⟨rfl, rfl⟩
          go_wp2_with fail
          go_ret
          exact ⟨ret_bool (by simp), hB⟩
        · skip
          clear hc1
          go_wp2_with fail
          refine (DrawTextDigest_any _ _ _ _ _ h1).mono ?_
          rintro e w10 ⟨st, rfl, hst, hb10⟩
          replace hB := hB.trans (hb10.mono hB.size)
          replace h0 := (h0.below hb10 (Nat.le_refl _)).up hb10.size
          replace h1 := (h1.below hb10 (Nat.le_refl _)).up hb10.size
          replace hl := (hl.below hb10 (Nat.le_refl _)).up hb10.size
          clear hb10
          go_wp2_with fail
          refine (impl_TextDigest_any _ _ (by omega)).mono ?_
          rintro e w' ⟨rfl, rfl⟩
          go_wp2_with fail
          refine (spec_TextDigest_any _ _ (by omega)).mono ?_
          rintro e w' ⟨rfl, rfl⟩
          go_wp2_with fail
          go_ret
          exact ⟨ret_bool (by simp), hB⟩
    · skip
      have HLD : Hid (digestF [lk, lt, la, lb] = (x, true)) := HL
      have hI := Lib.hid (ints_lit w6 [lk, lt, la, lb] (by simp))
      have hal : Below w6.heap.size w6 (w6.alloc (.cells #[.int .i64 lk, .int .i64 lt, .int .i64 la, .int .i64 lb] 3)) := (Below.refl _ _).alloc (Nat.le_refl _) _
      replace hB := hB.trans (hal.mono hB.size)
      replace h0 := (h0.below hal (Nat.le_refl _)).up hal.size
      replace h1 := (h1.below hal (Nat.le_refl _)).up hal.size
      replace hl := (hl.below hal (Nat.le_refl _)).up hal.size
      clear hal
      go_wp2_with fail
      refine (impl_DigestOf_any _ _ _ _ _ hI.out).mono ?_
      rw [HLD.out]
      rintro e w7 ⟨rfl, hb7⟩
      replace hB := hB.trans (hb7.mono hB.size)
      replace h0 := (h0.below hb7 (Nat.le_refl _)).up hb7.size
      replace h1 := (h1.below hb7 (Nat.le_refl _)).up hb7.size
      replace hl := (hl.below hb7 (Nat.le_refl _)).up hb7.size
      clear hb7
      go_wp2_with fail
      refine (DrawCountDigests_any _ _ _ _ _ h1).mono ?_
      rintro e w8 ⟨fi, ct, rfl, hb8⟩
      replace hB := hB.trans (hb8.mono hB.size)
      replace h0 := (h0.below hb8 (Nat.le_refl _)).up hb8.size
      replace h1 := (h1.below hb8 (Nat.le_refl _)).up hb8.size
      replace hl := (hl.below hb8 (Nat.le_refl _)).up hb8.size
      clear hb8
      obtain ⟨c, okC, hC⟩ : ∃ r o, countF fi ct = (r, o) := ⟨_, _, rfl⟩
      have HC := Lib.hid hC
      clear hC
      go_wp2_with fail
      refine (impl_CountDigests_any _ _ _).mono ?_
      rw [HC.out]
      rintro e w9 ⟨rfl, hb9⟩
      replace hB := hB.trans (hb9.mono hB.size)
      replace h0 := (h0.below hb9 (Nat.le_refl _)).up hb9.size
      replace h1 := (h1.below hb9 (Nat.le_refl _)).up hb9.size
      replace hl := (hl.below hb9 (Nat.le_refl _)).up hb9.size
      clear hb9
      go_wp2_with fail
      refine (spec_CountDigests_any _ _ _).mono ?_
      rw [HC.out]
      rintro e w10 ⟨rfl, hb10⟩
      replace hB := hB.trans (hb10.mono hB.size)
      replace h0 := (h0.below hb10 (Nat.le_refl _)).up hb10.size
      replace h1 := (h1.below hb10 (Nat.le_refl _)).up hb10.size
      replace hl := (hl.below hb10 (Nat.le_refl _)).up hb10.size
      clear hb10
      cases okC
      · skip
        go_wp2_with fail
        refine (DrawTextDigest_any _ _ _ _ _ h1).mono ?_
        rintro e w11 ⟨st, rfl, hst, hb11⟩
        replace hB := hB.trans (hb11.mono hB.size)
        replace h0 := (h0.below hb11 (Nat.le_refl _)).up hb11.size
        replace h1 := (h1.below hb11 (Nat.le_refl _)).up hb11.size
        replace hl := (hl.below hb11 (Nat.le_refl _)).up hb11.size
        clear hb11
        go_wp2_with fail
        refine (impl_TextDigest_any _ _ (by omega)).mono ?_
        rintro e w' ⟨rfl, rfl⟩
        go_wp2_with fail
        refine (spec_TextDigest_any _ _ (by omega)).mono ?_
        rintro e w' ⟨rfl, rfl⟩
        go_wp2_with fail
        go_ret
        exact ⟨ret_bool (by simp), hB⟩
      · skip
        obtain ⟨hcn, hc1⟩ := count_back HC.out
        by_cases hp : 0 < ct
        · skip
          have hcp := hc1 hp
          clear hc1
          go_wp2_with fail
          refine (DrawTextDigest_any _ _ _ _ _ h1).mono ?_
          rintro e w11 ⟨st, rfl, hst, hb11⟩
          replace hB := hB.trans (hb11.mono hB.size)
          replace h0 := (h0.below hb11 (Nat.le_refl _)).up hb11.size
          replace h1 := (h1.below hb11 (Nat.le_refl _)).up hb11.size
          replace hl := (hl.below hb11 (Nat.le_refl _)).up hb11.size
          clear hb11
          go_wp2_with fail
          refine (impl_TextDigest_any _ _ (by omega)).mono ?_
          rintro e w' ⟨rfl, rfl⟩
          go_wp2_with fail
          refine (spec_TextDigest_any _ _ (by omega)).mono ?_
          rintro e w' ⟨rfl, rfl⟩
          go_wp2_with fail
          go_ret
          exact ⟨ret_bool (by simp), hB⟩
        · skip
          clear hc1
          go_wp2_with fail
          refine (DrawTextDigest_any _ _ _ _ _ h1).mono ?_
          rintro e w11 ⟨st, rfl, hst, hb11⟩
          replace hB := hB.trans (hb11.mono hB.size)
          replace h0 := (h0.below hb11 (Nat.le_refl _)).up hb11.size
          replace h1 := (h1.below hb11 (Nat.le_refl _)).up hb11.size
          replace hl := (hl.below hb11 (Nat.le_refl _)).up hb11.size
          clear hb11
          go_wp2_with fail
          refine (impl_TextDigest_any _ _ (by omega)).mono ?_
          rintro e w' ⟨rfl, rfl⟩
          go_wp2_with fail
          refine (spec_TextDigest_any _ _ (by omega)).mono ?_
          rintro e w' ⟨rfl, rfl⟩
          go_wp2_with fail
          go_ret
          exact ⟨ret_bool (by simp), hB⟩
end Go.Proofs.Ytilkgidilhgjeaa
