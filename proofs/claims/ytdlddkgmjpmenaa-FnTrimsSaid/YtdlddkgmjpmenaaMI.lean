/-
  The language: operations on numbers and the widths of numbers, walked (printed by gen_va3.py).
-/
import Derived.Test.YtdlddkgmjpmenaaMH
import Derived.Test.YtdlddkgmjpmenaaME
namespace Go.Proofs.Ytdlddkgmjpmenaa
open Go.RowKit
set_option linter.unusedVariables false
set_option linter.unusedSimpArgs false

theorem tmod_fix (a m : Int) (hm : 0 < m) : (a.tmod m + m) % m = a % m ∧ 0 ≤ a.tmod m + m ∧ a.tmod m + m < 2 * m := by
  have h1 := Int.tmod_add_mul_tdiv a m
  have h2 : -m < a.tmod m ∧ a.tmod m < m := ⟨by have := Int.lt_tmod_of_pos a hm; omega, Int.tmod_lt_of_pos a hm⟩
  refine ⟨?_, by omega, by omega⟩
  have h3 : a % m = (a.tmod m + m * (a.tdiv m)) % m := by rw [h1]
  rw [h3, Int.add_mul_emod_self_left, Int.add_emod_right]
theorem bit_any (b : Bool) (w : World) : Calls Try.prog 74 #[.bool b] w fun e w' => e = .returned (.int .i64 (if b = true then 1 else 0)) ∧ w = w' := by
  cases b
  · go_enter Try.func74, Try.ntmps74
    go_wp2_with fail
    go_ret
    exact ⟨rfl, rfl⟩
  · go_enter Try.func74, Try.ntmps74
    go_wp2_with fail
    go_ret
    exact ⟨rfl, rfl⟩
theorem wrap_pow10 (k : Nat) (hk : k ≤ 10) : wrap64 (2 ^ k) = 2 ^ k := by
  have : k = 0 ∨ k = 1 ∨ k = 2 ∨ k = 3 ∨ k = 4 ∨ k = 5 ∨ k = 6 ∨ k = 7 ∨ k = 8 ∨ k = 9 ∨ k = 10 := by omega
  rcases this with rfl | rfl | rfl | rfl | rfl | rfl | rfl | rfl | rfl | rfl | rfl <;> simp [wrap64]
theorem pow_le10 (k : Nat) (hk : k ≤ 10) : (2 : Int) ^ k ≤ 1024 := by
  have := Nat.pow_le_pow_right (show 0 < 2 by decide) hk
  rw [pow_cast]
  have h2 : 2 ^ 10 = 1024 := by decide
  omega
theorem fit_no {ws ns : List Int} {n k : Nat} {w v : Int} (hw : ws[k]? = some w) (hv : ns[k]? = some v) (h : inB v 0 (2 ^ w.toNat - 1) = false) : fitB ws ns = false := by
  cases hf : fitB ws ns
  · rfl
  · have := (fitB_at hf).2 k w v hw hv
    rw [inB_no] at h
    exact (h this).elim
theorem fit_yes {ws ns : List Int} {n : Nat} (hw : ws.length = n) (hv : ns.length = n) (h : ∀ (j : Nat) (w v : Int), j < n → ws[j]? = some w → ns[j]? = some v → inB v 0 (2 ^ w.toNat - 1) = true) : fitB ws ns = true := by
  unfold fitB
  rw [Bool.and_eq_true, List.all_eq_true]
  refine ⟨by simp [hw, hv], fun p hp => ?_⟩
  obtain ⟨j, hj⟩ := List.getElem?_of_mem hp
  rw [List.getElem?_zip_eq_some] at hj
  exact h j p.1 p.2 (by rw [← hw]; exact (List.getElem?_eq_some_iff.1 hj.1).1) hj.1 hj.2
set_option maxHeartbeats 4000000 in
set_option maxRecDepth 20000 in
theorem fitWidths_any (w : World) (B C : Nat) (ao bo : Option Addr) (n m c d : Nat) (xs ws : List Int) (ha : Ints w B ao n xs) (hb : Ints w C bo m ws) (hz : okW ws) :
    Calls Try.prog 64 #[.slice ao n c, .slice bo m d] w fun e w' => e = .returned (.bool (fitB ws xs)) ∧ w = w' := by
  have hn := ha.le
  have hm := hb.le
  have HA := Lib.hid ha.1
  have HB := Lib.hid hb.1
  have HZ := Lib.hid hz
  clear hz
  by_cases hnm : n = m
  rotate_left
  · have HF : Hid (fitB ws xs = false) := by show _ = _; unfold fitB; rw [HA.out, HB.out, show decide (m = n) = false from by simp; omega]; rfl
    have hb1 : ((n : Int) != m) = true := by simp; omega
    have hb2 : ((m : Int) != n) = true := by simp; omega
    go_enter Try.func64, Try.ntmps64
    go_wp2_with fail
    go_ret
    exact ⟨ret_bool HF.out.symm, rfl⟩
  subst hnm
  go_enter Try.func64, Try.ntmps64
  go_wp2_with fail
  go_loop [14] (fun i => ∃ k : Nat, k ≤ n ∧ i = .int .i64 k ∧ Hid (∀ (j : Nat) (y v : Int), j < k → ws[j]? = some y → xs[j]? = some v → inB v 0 (2 ^ y.toNat - 1) = true)) (fun i => n - (intOf i).toNat)
  case atStart => exact ⟨0, Nat.zero_le _, rfl, by intro j y v hj; omega⟩
  case round =>
    obtain ⟨k, hk, rfl, hlow⟩ := hrel
    by_cases hlt : k < n
    · obtain ⟨b1, o1, v, rfl, hb1, hv, hc1⟩ := ha.at hlt
      obtain ⟨b2, o2, y, rfl, hb2, hy, hc2⟩ := hb.at hlt
      have hyr := HZ.out k y hy
      obtain ⟨q, rfl⟩ := Int.eq_ofNat_of_zero_le (show 0 ≤ y by omega)
      have HV := Lib.hid hv
      have HY := Lib.hid hy
      have HPW := Lib.hid (wrap_pow10m q (by omega))
      have hq10 : (q : Int) ≤ 10 := by omega
      clear hv hy hyr
      cases hin : inB v 0 (2 ^ q - 1)
      · have HI := Lib.hid hin
        clear hin
        go_wp2_with (go_at_call 67; rw [HPW.out]; refine (within_any _ _ _ _).mono ?_; rintro e w' ⟨rfl, rfl⟩; rw [HI.out])
        go_ret
        exact ⟨ret_bool (fit_no (n := n) HY.out HV.out (by rw [Int.toNat_natCast]; exact HI.out)).symm, rfl⟩
      · have HI := Lib.hid hin
        clear hin
        go_wp2_with (go_at_call 67; rw [HPW.out]; refine (within_any _ _ _ _).mono ?_; rintro e w' ⟨rfl, rfl⟩; rw [HI.out])
        go_round
        case rel => exact ⟨k + 1, by omega, by go_num, by
          intro j y v hj hy2 hv2
          by_cases he : j = k
          · subst he
            rw [HY.out] at hy2
            rw [HV.out] at hv2
            simp at hy2 hv2
            rw [← hy2, ← hv2, Int.toNat_natCast]
            exact HI.out
          · exact hlow.out j y v (by omega) hy2 hv2⟩
        case measure => simp [intOf] <;> omega
    · obtain rfl : k = n := by omega
      go_wp2_with fail
      go_ret
      exact ⟨ret_bool (fit_yes HB.out HA.out hlow.out).symm, rfl⟩
set_option maxHeartbeats 8000000 in
set_option maxRecDepth 100000 in
theorem operate_any (w : World) (op : ByteArray) (n x y : Nat) (hop : opsL.contains op = true) (hn : n ≤ 10) (hx : x < 2 ^ n) (hy : y < 2 ^ n) :
    Calls Try.prog 65 #[.string op, .int .i64 n, .int .i64 x, .int .i64 y] w fun e w' => e = .returned (.int .i64 (opF op n x y)) ∧ w = w' := by
  have h1024 : 2 ^ n ≤ 1024 := by have := pow_le10 n hn; rw [pow_cast] at this; omega
  have hx4 : x < 1024 := by omega
  have hy4 : y < 1024 := by omega
  have hni : (n : Int) ≤ 10 := by omega
  have HPW := Lib.hid (wrap_pow10m n hn)
  have HPV := Lib.hid (wrap_pow10 n hn)
  have HPL := Lib.hid (pow_le10 n hn)
  have HPP := Lib.hid (show (0 : Int) < 2 ^ n by rw [pow_cast]; have := Nat.two_pow_pos n; omega)
  have HAM := Lib.hid (fun z => and_mask z n hn)
  have HAN := Lib.hid (i64_and_nat x y (by omega) (by omega))
  have HOR := Lib.hid (i64_or_nat x y (by omega) (by omega))
  have HXO := Lib.hid (i64_xor_nat x y (by omega) (by omega))
  clear hx hy h1024
  rcases ops_cases hop with rfl | (rfl | rfl) | (rfl | rfl | rfl | rfl | rfl)
  · have HF : Hid (opF (opB 42) n x y = (x : Int) * y) := by show _ = _; unfold opF; simp [opB_beq]
    clear hop
    unfold opB at HF ⊢
    obtain ⟨r, hr⟩ : ∃ r, r = opF ⟨#[42]⟩ n x y := ⟨_, rfl⟩
    rw [← hr] at HF ⊢
    clear hr
    have hml : (x : Int) * y = ((x * y : Nat) : Int) := by simp
    have hmm := Nat.mul_le_mul (Nat.le_of_lt hx4) (Nat.le_of_lt hy4)
    have hm : (x : Int) * y ≤ 1048576 := by rw [hml]; exact Int.ofNat_le.2 hmm
    have hm0 : 0 ≤ (x : Int) * y := by rw [hml]; exact Int.natCast_nonneg _
    clear hml hmm
    go_enter Try.func65, Try.ntmps65
    go_wp2_with fail
    go_ret
    exact ⟨ret_int HF.out.symm, rfl⟩
  · have HF : Hid (opF (opB 60) n x y = if (x : Int) < y then 1 else 0) := by show _ = _; unfold opF; simp [opB_beq]
    clear hop
    unfold opB at HF ⊢
    obtain ⟨r, hr⟩ : ∃ r, r = opF ⟨#[60]⟩ n x y := ⟨_, rfl⟩
    rw [← hr] at HF ⊢
    clear hr
    by_cases hc : x < y
    · have hci : (x : Int) < y := by omega
      have hcd : decide ((x : Int) < y) = true := by simp; omega
      go_enter Try.func65, Try.ntmps65
      go_wp2_with (go_at_call 74; refine (bit_any _ _).mono ?_; rintro e w' ⟨rfl, rfl⟩)
      go_ret
      exact ⟨ret_int (by rw [HF.out]; split <;> first | rfl | (exfalso; omega)), rfl⟩
    · have hci : ¬ (x : Int) < y := by omega
      have hcd : decide ((x : Int) < y) = false := by simp; omega
      go_enter Try.func65, Try.ntmps65
      go_wp2_with (go_at_call 74; refine (bit_any _ _).mono ?_; rintro e w' ⟨rfl, rfl⟩)
      go_ret
      exact ⟨ret_int (by rw [HF.out]; split <;> first | rfl | (exfalso; omega)), rfl⟩
  · have HF : Hid (opF (opB 61) n x y = if (x : Int) = y then 1 else 0) := by show _ = _; unfold opF; simp [opB_beq]
    clear hop
    unfold opB at HF ⊢
    obtain ⟨r, hr⟩ : ∃ r, r = opF ⟨#[61]⟩ n x y := ⟨_, rfl⟩
    rw [← hr] at HF ⊢
    clear hr
    by_cases hc : x = y
    · have hci : ((x : Int) == y) = true := by simp [hc]
      have HC := Lib.hid hc
      clear hc
      go_enter Try.func65, Try.ntmps65
      go_wp2_with (go_at_call 74; refine (bit_any _ _).mono ?_; rintro e w' ⟨rfl, rfl⟩)
      go_ret
      exact ⟨ret_int (by rw [HF.out]; have := HC.out; split <;> first | rfl | (exfalso; omega)), rfl⟩
    · have hci : ((x : Int) == y) = false := by simp; omega
      have HC := Lib.hid hc
      clear hc
      go_enter Try.func65, Try.ntmps65
      go_wp2_with (go_at_call 74; refine (bit_any _ _).mono ?_; rintro e w' ⟨rfl, rfl⟩)
      go_ret
      exact ⟨ret_int (by rw [HF.out]; have := HC.out; split <;> first | rfl | (exfalso; omega)), rfl⟩
  · have HF : Hid (opF (opB 43) n x y = ((x : Int) + y) % 2 ^ n) := by show _ = _; unfold opF; simp [opB_beq]
    clear hop
    unfold opB at HF ⊢
    obtain ⟨r, hr⟩ : ∃ r, r = opF ⟨#[43]⟩ n x y := ⟨_, rfl⟩
    rw [← hr] at HF ⊢
    clear hr
    have HB := Lib.hid (HAM.out ((x : Int) + y))
    go_enter Try.func65, Try.ntmps65
    go_wp2_with fail
    go_ret
    exact ⟨ret_int (by rw [HF.out, HPW.out, HB.out]), rfl⟩
  · have HF : Hid (opF (opB 45) n x y = ((x : Int) - y) % 2 ^ n) := by show _ = _; unfold opF; simp [opB_beq]
    clear hop
    unfold opB at HF ⊢
    obtain ⟨r, hr⟩ : ∃ r, r = opF ⟨#[45]⟩ n x y := ⟨_, rfl⟩
    rw [← hr] at HF ⊢
    clear hr
    have HB := Lib.hid (HAM.out ((x : Int) - y))
    go_enter Try.func65, Try.ntmps65
    go_wp2_with fail
    go_ret
    exact ⟨ret_int (by rw [HF.out, HPW.out, HB.out]), rfl⟩
  · have HF : Hid (opF (opB 38) n x y = ((x &&& y : Nat) : Int)) := by show _ = _; unfold opF; simp [opB_beq]
    clear hop
    unfold opB at HF ⊢
    obtain ⟨r, hr⟩ : ∃ r, r = opF ⟨#[38]⟩ n x y := ⟨_, rfl⟩
    rw [← hr] at HF ⊢
    clear hr
    go_enter Try.func65, Try.ntmps65
    go_wp2_with fail
    go_ret
    exact ⟨ret_int (by rw [HF.out, HAN.out]), rfl⟩
  · have HF : Hid (opF (opB 124) n x y = ((x ||| y : Nat) : Int)) := by show _ = _; unfold opF; simp [opB_beq]
    clear hop
    unfold opB at HF ⊢
    obtain ⟨r, hr⟩ : ∃ r, r = opF ⟨#[124]⟩ n x y := ⟨_, rfl⟩
    rw [← hr] at HF ⊢
    clear hr
    go_enter Try.func65, Try.ntmps65
    go_wp2_with fail
    go_ret
    exact ⟨ret_int (by rw [HF.out, HOR.out]), rfl⟩
  · have HF : Hid (opF (opB 94) n x y = ((x ^^^ y : Nat) : Int)) := by show _ = _; unfold opF; simp [opB_beq]
    clear hop
    unfold opB at HF ⊢
    obtain ⟨r, hr⟩ : ∃ r, r = opF ⟨#[94]⟩ n x y := ⟨_, rfl⟩
    rw [← hr] at HF ⊢
    clear hr
    go_enter Try.func65, Try.ntmps65
    go_wp2_with fail
    go_ret
    exact ⟨ret_int (by rw [HF.out, HXO.out]), rfl⟩
end Go.Proofs.Ytdlddkgmjpmenaa
/-
  The language: whether numbers are a program's inputs, both ways.
-/
namespace Go.Proofs.Ytdlddkgmjpmenaa
open Go.RowKit
set_option linter.unusedVariables false
set_option linter.unusedSimpArgs false

theorem inputs_okW {ls : List Ln} (hg : laGoodF ls = true) (p : Int) : okW (inputsL ls p) := inputs_ok ((widths_good ls).2 hg).2.2.1 p
theorem inWF_good {ls : List Ln} (hg : laGoodF ls = true) {p : Int} (hp : inB p 0 1 = true) : inWF ls p = (inputsL ls p, true) := by unfold inWF; rw [if_pos ⟨hg, hp⟩]
theorem inWF_bad {ls : List Ln} (hg : laGoodF ls = false) (p : Int) : inWF ls p = ([], false) := by unfold inWF; rw [if_neg (by rw [hg]; simp)]
set_option maxRecDepth 20000 in
set_option maxHeartbeats 4000000 in
theorem areValues_any (w : World) (ao aa ba : Option Addr) (n c na ca nb cb : Nat) (ls : List Ln) (a b : List Int) (h : Lns w w.heap.size ao n ls) (hs : okS ls) (hnc : n ≤ c) (ha : Ints w w.heap.size aa na a) (hb : Ints w w.heap.size ba nb b) :
    Calls Try.prog 53 #[.slice ao n c, .slice aa na ca, .slice ba nb cb] w (RetB (askedB ls a b) w) := by
  go_enter Try.func53, Try.ntmps53
  go_wp2_with fail
  refine (impl_InputWidths_any _ _ _ _ _ 0 h hs hnc).mono ?_
  rintro e w1 ⟨a1, n1, c1, rfl, ho1, hb1⟩
  cases hg : laGoodF ls
  · have HF : Hid (askedB ls a b = false) := by show _ = _; unfold askedB; rw [hg]; rfl
    rw [inWF_bad hg 0]
    have HG := Lib.hid hg
    clear hg ho1
    go_wp2_with fail
    refine (impl_InputWidths_any _ _ _ _ _ 1 ((h.below hb1 (Nat.le_refl _)).up hb1.size) hs hnc).mono ?_
    rintro e w2 ⟨a2, n2, c2, rfl, ho2, hb2⟩
    rw [inWF_bad HG.out 1]
    clear ho2
    go_wp2_with fail
    go_ret
    exact ⟨ret_bool HF.out.symm, hb1.trans (hb2.mono hb1.size)⟩
  rw [inWF_good hg rfl] at ho1 ⊢
  have HG := Lib.hid hg
  have HO1 := Lib.hid ho1
  clear hg ho1
  go_wp2_with fail
  refine (impl_InputWidths_any _ _ _ _ _ 1 ((h.below hb1 (Nat.le_refl _)).up hb1.size) hs hnc).mono ?_
  rintro e w2 ⟨a2, n2, c2, rfl, ho2, hb2⟩
  rw [inWF_good HG.out rfl] at ho2 ⊢
  have hbw2 := hb1.trans (hb2.mono hb1.size)
  have HI1 := Lib.hid ((HO1.out.below hb2 (Nat.le_refl _)).ints)
  have HI2 := Lib.hid ho2.ints
  have HA := Lib.hid (ha.below hbw2 (Nat.le_refl _))
  have HB := Lib.hid (hb.below hbw2 (Nat.le_refl _))
  clear ho2
  cases hf0 : fitB (inputsL ls 0) a
  · have HF : Hid (askedB ls a b = false) := by show _ = _; unfold askedB; rw [HG.out, hf0]; rfl
    have HF0 := Lib.hid hf0
    clear hf0
    go_wp2_with (go_at_call 64; refine (fitWidths_any _ _ _ _ _ _ _ _ _ _ _ HA.out HI1.out (inputs_okW HG.out 0)).mono ?_; rintro e w' ⟨rfl, rfl⟩; rw [HF0.out])
    go_ret
    exact ⟨ret_bool HF.out.symm, hbw2⟩
  · have HF0 := Lib.hid hf0
    clear hf0
    have HF : Hid (askedB ls a b = fitB (inputsL ls 1) b) := by show _ = _; unfold askedB; rw [HG.out, HF0.out]; rfl
    go_wp2_with fail
    refine (fitWidths_any _ _ _ _ _ _ _ _ _ _ _ HA.out HI1.out (inputs_okW HG.out 0)).mono ?_
    rintro e w' ⟨rfl, rfl⟩
    rw [HF0.out]
    go_wp2_with fail
    refine (fitWidths_any _ _ _ _ _ _ _ _ _ _ _ HB.out HI2.out (inputs_okW HG.out 1)).mono ?_
    rintro e w' ⟨rfl, rfl⟩
    rw [← HF.out]
    go_wp2_with fail
    go_ret
    exact ⟨rfl, hbw2⟩
end Go.Proofs.Ytdlddkgmjpmenaa
