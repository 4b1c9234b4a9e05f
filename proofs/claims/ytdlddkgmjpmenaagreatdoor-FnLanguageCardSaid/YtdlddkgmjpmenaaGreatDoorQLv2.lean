/-
  The language: the program's width of a line of kind 2.
-/
import Derived.Test.YtdlddkgmjpmenaaGreatDoorHLn
namespace Go.Proofs.YtdlddkgmjpmenaaGreatDoor
open Go.RowKit
set_option linter.unusedVariables false
set_option linter.unusedSimpArgs false

set_option maxRecDepth 100000 in
set_option maxHeartbeats 8000000 in
theorem lineWidth_any2 (w : World) (x : Ln) (pa bo : Option Addr) (n c pc : Nat) (v : List Int) (hw : Ints w w.heap.size bo n v) (hz : okZ v) (hs : x.name.size ≤ 1048576) (kk : x.kind = 2) :
    Calls Tryz.prog 78 #[lineV x pa pc, .slice bo n c] w (RetN (lnWidth x v) w) := by
  have hn := hw.le
  have hl := Lib.hid hw.1
  have HZ := Lib.hid hz
  clear hz
  obtain ⟨W0, hW0⟩ : ∃ W0, W0 = w.alloc (lineObj x pa pc) := ⟨_, rfl⟩
  have hb0 : Below w.heap.size w W0 := by rw [hW0]; exact (Below.refl _ _).alloc (Nat.le_refl _) _
  have hbx0 : BoxL W0 w.heap.size x pa pc := by rw [hW0]; exact boxL_new _ _ _ _
  have hsz0 : W0.heap.size = w.heap.size + 1 := by rw [hW0]; simp
  have HW0 := Lib.hid hW0
  clear hW0
  obtain ⟨W2, hW2⟩ : ∃ W2, W2 = W0.alloc (dueObj x pa pc) := ⟨_, rfl⟩
  have hal : Below W0.heap.size W0 W2 := by rw [hW2]; exact (Below.refl _ _).alloc (Nat.le_refl _) _
  have hbx2 : BoxN W2 W0.heap.size x.name ⟨#[]⟩ 0 0 0 := by rw [hW2]; exact boxD_new _ _ _ _
  have hsz2 : W2.heap.size = W0.heap.size + 1 := by rw [hW2]; simp
  have HW2 := Lib.hid hW2
  clear hW2
  have hb2 := hb0.trans (hal.mono hb0.size)
  obtain ⟨e0, e1, e2, e3, e4, e5, e6⟩ := hbx0
  obtain ⟨E0, E1, E2, E3, E4, E5, E6⟩ := (show BoxL W0 w.heap.size x pa pc from ⟨e0, e1, e2, e3, e4, e5, e6⟩).below hal (by omega)
  obtain ⟨N1, N2, N4, N5, N6, F1, F2, F4, F5, F6⟩ := hbx2
  have HS0 := Lib.hid hsz0
  clear hsz0 hsz2 hb0 hal
  have a1 : (x.kind == 1) = false := by simp [kk]
  have a2 : (x.kind == 2) = true := by simp [kk]
  have a3 : (x.kind == 3) = false := by simp [kk]
  have a4 : (x.kind == 4) = false := by simp [kk]
  have a5 : (x.kind == 5) = false := by simp [kk]
  have a6 : (x.kind == 6) = false := by simp [kk]
  have HPL : Hid (laParts x.kind = 0) := by show _ = _; rw [kk]; rfl
  have hne : W0.heap.size ≠ w.heap.size := by have := HS0.out; omega
  have hne' := hne.symm
  have hneb : (W0.heap.size == w.heap.size) = false := by simp [hne]
  have hneb' : (w.heap.size == W0.heap.size) = false := by simp [hne']
  have HL2 := Lib.hid (show BoxL W2 w.heap.size x pa pc from ⟨E0, E1, E2, E3, E4, E5, E6⟩)
  have HN2 := Lib.hid (show BoxN W2 W0.heap.size x.name ⟨#[]⟩ 0 0 0 from ⟨N1, N2, N4, N5, N6, F1, F2, F4, F5, F6⟩)
  unfold lineV
  unfold lineObj at HW0
  unfold dueObj at HW2
  cases hi2 : inB x.width 1 10
  · have HI2 := Lib.hid hi2
    have HF : Hid (lnWidth x v = 0) := by show _ = _; unfold lnWidth; rw [if_neg (fun h => by rw [kk] at h; exact absurd h.1 (by decide)), if_pos ⟨kk, by rw [hi2]; rfl⟩]
    clear hi2 kk
    go_enter Tryz.func78, Tryz.ntmps78
    go_upto_region 9 with (first | rw [← HW0.out] | rw [← HW2.out])
    go_region
    obtain ⟨W3, hW3⟩ : ∃ W3, W3 = ((W2.setCell ⟨W0.heap.size, 5, none⟩ (.int .i64 x.width)).setCell ⟨W0.heap.size, 6, none⟩ (.int .i64 x.value)).drew := ⟨_, rfl⟩
    have hL3 : BoxL W3 w.heap.size x pa pc := by rw [hW3]; exact BoxL.far (BoxL.far HL2.out _ _ hne) _ _ hne
    have hN3 : BoxN W3 W0.heap.size x.name ⟨#[]⟩ 0 x.width x.value := by rw [hW3]; exact (BoxN.set6 (BoxN.set5 HN2.out _) _)
    have hb3 : Below w.heap.size w W3 := by rw [hW3]; exact (below_set (below_set hb2 _ _ (by show w.heap.size ≤ W0.heap.size; have := HS0.out; omega)) _ _ (by show w.heap.size ≤ W0.heap.size; have := HS0.out; omega)).drew
    rw [← hW3]
    clear hW3 E0 E1 E2 E3 E4 E5 E6 N1 N2 N4 N5 N6 F1 F2 F4 F5 F6 e0 e1 e2 e3 e4 e5 e6
    obtain ⟨E0, E1, E2, E3, E4, E5, E6⟩ := hL3
    obtain ⟨N1, N2, N4, N5, N6, F1, F2, F4, F5, F6⟩ := hN3
    go_wp2_with (first | rw [← HW0.out] | rw [← HW2.out] | (go_at_call 104; refine (isName_any _ _ hs).mono ?_; rintro e w' ⟨rfl, rfl⟩; rw [HNB.out]) | (go_at_call 96; refine (isBit2_any _ _).mono ?_; rintro e w' ⟨rfl, rfl⟩; rw [HI1.out]) | (go_at_call 102; refine (isWidth_any _ _).mono ?_; rintro e w' ⟨rfl, rfl⟩; rw [HI2.out]) | (go_at_call 98; rw [HPW.out]; refine (within_any _ _ _ _).mono ?_; rintro e w' ⟨rfl, rfl⟩; rw [HI3.out]))
    go_ret
    exact ⟨ret_int HF.out.symm, hb3⟩
  have hwd := inB_iff.1 hi2
  obtain ⟨kw, hkw⟩ := Int.eq_ofNat_of_zero_le (show 0 ≤ x.width by omega)
  have HPW := Lib.hid (wrap_pow10m kw (by omega))
  have hk64 : (kw : Int) ≤ 10 := by omega
  clear hwd
  have HI2 : Hid (inB (kw : Int) 1 10 = true) := by show _ = _; rw [← hkw]; exact hi2
  have HWAY := Lib.hid hkw
  rw [hkw] at HW0 e5 E5 ⊢
  cases hi3 : inB x.value 0 (2 ^ kw - 1)
  · have HI3 := Lib.hid hi3
    have HF : Hid (lnWidth x v = 0) := by show _ = _; unfold lnWidth; rw [if_neg (fun h => by rw [kk] at h; exact absurd h.1 (by decide)), if_pos ⟨kk, by rw [hi2, hkw, Int.toNat_natCast, hi3]; rfl⟩]
    clear hi2 hi3 kk hkw
    go_enter Tryz.func78, Tryz.ntmps78
    go_upto_region 9 with (first | rw [← HW0.out] | rw [← HW2.out])
    go_region
    obtain ⟨W3, hW3⟩ : ∃ W3, W3 = ((W2.setCell ⟨W0.heap.size, 5, none⟩ (.int .i64 (kw : Int))).setCell ⟨W0.heap.size, 6, none⟩ (.int .i64 x.value)).drew := ⟨_, rfl⟩
    have hL3 : BoxL W3 w.heap.size x pa pc := by rw [hW3]; exact BoxL.far (BoxL.far HL2.out _ _ hne) _ _ hne
    have hN3 : BoxN W3 W0.heap.size x.name ⟨#[]⟩ 0 (kw : Int) x.value := by rw [hW3]; exact (BoxN.set6 (BoxN.set5 HN2.out _) _)
    have hb3 : Below w.heap.size w W3 := by rw [hW3]; exact (below_set (below_set hb2 _ _ (by show w.heap.size ≤ W0.heap.size; have := HS0.out; omega)) _ _ (by show w.heap.size ≤ W0.heap.size; have := HS0.out; omega)).drew
    rw [← hW3]
    clear hW3 E0 E1 E2 E3 E4 E5 E6 N1 N2 N4 N5 N6 F1 F2 F4 F5 F6 e0 e1 e2 e3 e4 e5 e6
    obtain ⟨E0, E1, E2, E3, E4, E5, E6⟩ := hL3
    obtain ⟨N1, N2, N4, N5, N6, F1, F2, F4, F5, F6⟩ := hN3
    rw [HWAY.out] at E5
    go_wp2_with (first | rw [← HW0.out] | rw [← HW2.out] | (go_at_call 104; refine (isName_any _ _ hs).mono ?_; rintro e w' ⟨rfl, rfl⟩; rw [HNB.out]) | (go_at_call 96; refine (isBit2_any _ _).mono ?_; rintro e w' ⟨rfl, rfl⟩; rw [HI1.out]) | (go_at_call 102; refine (isWidth_any _ _).mono ?_; rintro e w' ⟨rfl, rfl⟩; rw [HI2.out]) | (go_at_call 98; rw [HPW.out]; refine (within_any _ _ _ _).mono ?_; rintro e w' ⟨rfl, rfl⟩; rw [HI3.out]))
    go_ret
    exact ⟨ret_int HF.out.symm, hb3⟩
  have HLW : Hid (lnWidth x v = if ((x.kind == 6) != (x.name == ByteArray.empty) || (x.name != ByteArray.empty && !nameB x.name) || (n : Int) != 0) = true then 0 else if (!(x.kind == 3 || x.op == ByteArray.empty) || !(x.kind == 1 || x.party == 0) || !(x.kind == 1 || x.kind == 2 || x.width == 0) || !(x.kind == 2 || x.value == 0)) = true then 0 else x.width) := by
    show _ = _
    unfold lnWidth
    rw [if_neg (fun h => by rw [kk] at h; exact absurd h.1 (by decide)), if_neg (fun h => by rw [hi2, hkw, Int.toNat_natCast, hi3] at h; exact absurd h.2 (by decide)), HPL.out, hl.out]
    simp [kk]
  have HI3 := Lib.hid hi3
  clear hi2 hi3 kk hkw
  by_cases hc : n = 0
  rotate_left
  · have hcb : ((n : Int) != 0) = true := by simp; omega
    have hcc : ((n : Int) == 0) = false := by simp; omega
    clear hc
    go_enter Tryz.func78, Tryz.ntmps78
    go_upto_region 9 with (first | rw [← HW0.out] | rw [← HW2.out])
    go_region
    obtain ⟨W3, hW3⟩ : ∃ W3, W3 = ((W2.setCell ⟨W0.heap.size, 5, none⟩ (.int .i64 (kw : Int))).setCell ⟨W0.heap.size, 6, none⟩ (.int .i64 x.value)).drew := ⟨_, rfl⟩
    have hL3 : BoxL W3 w.heap.size x pa pc := by rw [hW3]; exact BoxL.far (BoxL.far HL2.out _ _ hne) _ _ hne
    have hN3 : BoxN W3 W0.heap.size x.name ⟨#[]⟩ 0 (kw : Int) x.value := by rw [hW3]; exact (BoxN.set6 (BoxN.set5 HN2.out _) _)
    have hb3 : Below w.heap.size w W3 := by rw [hW3]; exact (below_set (below_set hb2 _ _ (by show w.heap.size ≤ W0.heap.size; have := HS0.out; omega)) _ _ (by show w.heap.size ≤ W0.heap.size; have := HS0.out; omega)).drew
    rw [← hW3]
    clear hW3 E0 E1 E2 E3 E4 E5 E6 N1 N2 N4 N5 N6 F1 F2 F4 F5 F6 e0 e1 e2 e3 e4 e5 e6
    obtain ⟨E0, E1, E2, E3, E4, E5, E6⟩ := hL3
    obtain ⟨N1, N2, N4, N5, N6, F1, F2, F4, F5, F6⟩ := hN3
    rw [HWAY.out] at E5
    go_upto_region 25 with (first | rw [← HW0.out] | rw [← HW2.out] | (go_at_call 104; refine (isName_any _ _ hs).mono ?_; rintro e w' ⟨rfl, rfl⟩; rw [HNB.out]) | (go_at_call 96; refine (isBit2_any _ _).mono ?_; rintro e w' ⟨rfl, rfl⟩; rw [HI1.out]) | (go_at_call 102; refine (isWidth_any _ _).mono ?_; rintro e w' ⟨rfl, rfl⟩; rw [HI2.out]) | (go_at_call 98; rw [HPW.out]; refine (within_any _ _ _ _).mono ?_; rintro e w' ⟨rfl, rfl⟩; rw [HI3.out]))
    by_cases qname : x.name = ByteArray.empty
    · have yname := bytes_beq.2 qname
      have zname : (x.name.toList == []) = true := by rw [qname, empty_list]; rfl
      have uname : (([] : List UInt8) == x.name.toList) = true := by rw [qname, empty_list]; rfl
      clear qname
      have HF : Hid (lnWidth x v = 0) := by
        show _ = _
        rw [HLW.out]
        simp only [bne, a6, yname]
        rfl
      go_wp2_with (first | rw [← HW0.out] | rw [← HW2.out] | (go_at_call 104; refine (isName_any _ _ hs).mono ?_; rintro e w' ⟨rfl, rfl⟩; rw [HNB.out]) | (go_at_call 96; refine (isBit2_any _ _).mono ?_; rintro e w' ⟨rfl, rfl⟩; rw [HI1.out]) | (go_at_call 102; refine (isWidth_any _ _).mono ?_; rintro e w' ⟨rfl, rfl⟩; rw [HI2.out]) | (go_at_call 98; rw [HPW.out]; refine (within_any _ _ _ _).mono ?_; rintro e w' ⟨rfl, rfl⟩; rw [HI3.out]))
      go_ret
      exact ⟨ret_int HF.out.symm, hb3⟩
    have yname := bytes_beq_no.2 qname
    have zname : (x.name.toList == []) = false := by rw [← empty_list]; exact seq_no qname
    have uname : (([] : List UInt8) == x.name.toList) = false := by rw [← empty_list]; exact seq_no (fun e => qname e.symm)
    clear qname
    cases hnb : nameB x.name
    · have HNB := Lib.hid hnb
      have HF : Hid (lnWidth x v = 0) := by
        show _ = _
        rw [HLW.out]
        simp only [bne, a6, yname, hnb]
        rfl
      clear hnb
      go_wp2_with (first | rw [← HW0.out] | rw [← HW2.out] | (go_at_call 104; refine (isName_any _ _ hs).mono ?_; rintro e w' ⟨rfl, rfl⟩; rw [HNB.out]) | (go_at_call 96; refine (isBit2_any _ _).mono ?_; rintro e w' ⟨rfl, rfl⟩; rw [HI1.out]) | (go_at_call 102; refine (isWidth_any _ _).mono ?_; rintro e w' ⟨rfl, rfl⟩; rw [HI2.out]) | (go_at_call 98; rw [HPW.out]; refine (within_any _ _ _ _).mono ?_; rintro e w' ⟨rfl, rfl⟩; rw [HI3.out]))
      go_ret
      exact ⟨ret_int HF.out.symm, hb3⟩
    have HNB := Lib.hid hnb
    have HNC := Lib.hid hnb
    clear hnb
    have HF : Hid (lnWidth x v = 0) := by
      show _ = _
      rw [HLW.out]
      simp only [bne, a6, yname, HNC.out, hcc]
      rfl
    go_wp2_with (first | rw [← HW0.out] | rw [← HW2.out] | (go_at_call 104; refine (isName_any _ _ hs).mono ?_; rintro e w' ⟨rfl, rfl⟩; rw [HNB.out]) | (go_at_call 96; refine (isBit2_any _ _).mono ?_; rintro e w' ⟨rfl, rfl⟩; rw [HI1.out]) | (go_at_call 102; refine (isWidth_any _ _).mono ?_; rintro e w' ⟨rfl, rfl⟩; rw [HI2.out]) | (go_at_call 98; rw [HPW.out]; refine (within_any _ _ _ _).mono ?_; rintro e w' ⟨rfl, rfl⟩; rw [HI3.out]))
    go_ret
    exact ⟨ret_int HF.out.symm, hb3⟩
  have hcb : ((n : Int) != 0) = false := by simp [hc]
  have hcc : ((n : Int) == 0) = true := by simp [hc]
  clear hc hw
  go_enter Tryz.func78, Tryz.ntmps78
  go_upto_region 9 with (first | rw [← HW0.out] | rw [← HW2.out])
  go_region
  obtain ⟨W3, hW3⟩ : ∃ W3, W3 = ((W2.setCell ⟨W0.heap.size, 5, none⟩ (.int .i64 (kw : Int))).setCell ⟨W0.heap.size, 6, none⟩ (.int .i64 x.value)).drew := ⟨_, rfl⟩
  have hL3 : BoxL W3 w.heap.size x pa pc := by rw [hW3]; exact BoxL.far (BoxL.far HL2.out _ _ hne) _ _ hne
  have hN3 : BoxN W3 W0.heap.size x.name ⟨#[]⟩ 0 (kw : Int) x.value := by rw [hW3]; exact (BoxN.set6 (BoxN.set5 HN2.out _) _)
  have hb3 : Below w.heap.size w W3 := by rw [hW3]; exact (below_set (below_set hb2 _ _ (by show w.heap.size ≤ W0.heap.size; have := HS0.out; omega)) _ _ (by show w.heap.size ≤ W0.heap.size; have := HS0.out; omega)).drew
  rw [← hW3]
  clear hW3 E0 E1 E2 E3 E4 E5 E6 N1 N2 N4 N5 N6 F1 F2 F4 F5 F6 e0 e1 e2 e3 e4 e5 e6
  obtain ⟨E0, E1, E2, E3, E4, E5, E6⟩ := hL3
  obtain ⟨N1, N2, N4, N5, N6, F1, F2, F4, F5, F6⟩ := hN3
  rw [HWAY.out] at E5
  go_upto_region 25 with (first | rw [← HW0.out] | rw [← HW2.out] | (go_at_call 104; refine (isName_any _ _ hs).mono ?_; rintro e w' ⟨rfl, rfl⟩; rw [HNB.out]) | (go_at_call 96; refine (isBit2_any _ _).mono ?_; rintro e w' ⟨rfl, rfl⟩; rw [HI1.out]) | (go_at_call 102; refine (isWidth_any _ _).mono ?_; rintro e w' ⟨rfl, rfl⟩; rw [HI2.out]) | (go_at_call 98; rw [HPW.out]; refine (within_any _ _ _ _).mono ?_; rintro e w' ⟨rfl, rfl⟩; rw [HI3.out]))
  by_cases qname : x.name = ByteArray.empty
  · have yname := bytes_beq.2 qname
    have zname : (x.name.toList == []) = true := by rw [qname, empty_list]; rfl
    have uname : (([] : List UInt8) == x.name.toList) = true := by rw [qname, empty_list]; rfl
    clear qname
    have HF : Hid (lnWidth x v = 0) := by
      show _ = _
      rw [HLW.out]
      simp only [bne, a6, yname]
      rfl
    go_wp2_with (first | rw [← HW0.out] | rw [← HW2.out] | (go_at_call 104; refine (isName_any _ _ hs).mono ?_; rintro e w' ⟨rfl, rfl⟩; rw [HNB.out]) | (go_at_call 96; refine (isBit2_any _ _).mono ?_; rintro e w' ⟨rfl, rfl⟩; rw [HI1.out]) | (go_at_call 102; refine (isWidth_any _ _).mono ?_; rintro e w' ⟨rfl, rfl⟩; rw [HI2.out]) | (go_at_call 98; rw [HPW.out]; refine (within_any _ _ _ _).mono ?_; rintro e w' ⟨rfl, rfl⟩; rw [HI3.out]))
    go_ret
    exact ⟨ret_int HF.out.symm, hb3⟩
  have yname := bytes_beq_no.2 qname
  have zname : (x.name.toList == []) = false := by rw [← empty_list]; exact seq_no qname
  have uname : (([] : List UInt8) == x.name.toList) = false := by rw [← empty_list]; exact seq_no (fun e => qname e.symm)
  clear qname
  cases hnb : nameB x.name
  · have HNB := Lib.hid hnb
    have HF : Hid (lnWidth x v = 0) := by
      show _ = _
      rw [HLW.out]
      simp only [bne, a6, yname, hnb]
      rfl
    clear hnb
    go_wp2_with (first | rw [← HW0.out] | rw [← HW2.out] | (go_at_call 104; refine (isName_any _ _ hs).mono ?_; rintro e w' ⟨rfl, rfl⟩; rw [HNB.out]) | (go_at_call 96; refine (isBit2_any _ _).mono ?_; rintro e w' ⟨rfl, rfl⟩; rw [HI1.out]) | (go_at_call 102; refine (isWidth_any _ _).mono ?_; rintro e w' ⟨rfl, rfl⟩; rw [HI2.out]) | (go_at_call 98; rw [HPW.out]; refine (within_any _ _ _ _).mono ?_; rintro e w' ⟨rfl, rfl⟩; rw [HI3.out]))
    go_ret
    exact ⟨ret_int HF.out.symm, hb3⟩
  have HNB := Lib.hid hnb
  have HNC := Lib.hid hnb
  clear hnb
  by_cases qop : x.op = ByteArray.empty
  rotate_left
  · have yop := bytes_beq_no.2 qop
    have zop : (x.op.toList == []) = false := by rw [← empty_list]; exact seq_no qop
    have uop : (([] : List UInt8) == x.op.toList) = false := by rw [← empty_list]; exact seq_no (fun e => qop e.symm)
    clear qop
    have HF : Hid (lnWidth x v = 0) := by
      show _ = _
      rw [HLW.out]
      simp only [bne, a6, yname, HNC.out, hcc, a1, a2, a3, a4, a5, a6, yop]
      rfl
    go_wp2_with (first | rw [← HW0.out] | rw [← HW2.out] | (go_at_call 104; refine (isName_any _ _ hs).mono ?_; rintro e w' ⟨rfl, rfl⟩; rw [HNB.out]) | (go_at_call 96; refine (isBit2_any _ _).mono ?_; rintro e w' ⟨rfl, rfl⟩; rw [HI1.out]) | (go_at_call 102; refine (isWidth_any _ _).mono ?_; rintro e w' ⟨rfl, rfl⟩; rw [HI2.out]) | (go_at_call 98; rw [HPW.out]; refine (within_any _ _ _ _).mono ?_; rintro e w' ⟨rfl, rfl⟩; rw [HI3.out]))
    go_ret
    exact ⟨ret_int HF.out.symm, hb3⟩
  have yop := bytes_beq.2 qop
  have zop : (x.op.toList == []) = true := by rw [qop, empty_list]; rfl
  have uop : (([] : List UInt8) == x.op.toList) = true := by rw [qop, empty_list]; rfl
  clear qop
  by_cases qparty : x.party = 0
  rotate_left
  · have yparty : (x.party == 0) = false := by simp [qparty]
    have zparty : ((0 : Int) == x.party) = false := by simp; omega
    have uparty : ((0 : Int) != x.party) = true := by simp; omega
    clear qparty
    have HF : Hid (lnWidth x v = 0) := by
      show _ = _
      rw [HLW.out]
      simp only [bne, a6, yname, HNC.out, hcc, a1, a2, a3, a4, a5, a6, yop, yparty]
      rfl
    go_wp2_with (first | rw [← HW0.out] | rw [← HW2.out] | (go_at_call 104; refine (isName_any _ _ hs).mono ?_; rintro e w' ⟨rfl, rfl⟩; rw [HNB.out]) | (go_at_call 96; refine (isBit2_any _ _).mono ?_; rintro e w' ⟨rfl, rfl⟩; rw [HI1.out]) | (go_at_call 102; refine (isWidth_any _ _).mono ?_; rintro e w' ⟨rfl, rfl⟩; rw [HI2.out]) | (go_at_call 98; rw [HPW.out]; refine (within_any _ _ _ _).mono ?_; rintro e w' ⟨rfl, rfl⟩; rw [HI3.out]))
    go_ret
    exact ⟨ret_int HF.out.symm, hb3⟩
  have yparty : (x.party == 0) = true := by simp [qparty]
  have zparty : ((0 : Int) == x.party) = true := by simp [qparty]
  have uparty : ((0 : Int) != x.party) = false := by simp [qparty]
  clear qparty
  have HOK : Hid (lnWidth x v = (kw : Int)) := by
    show _ = _
    rw [HLW.out, HWAY.out]
    simp only [bne, a6, yname, HNC.out, hcc, a1, a2, a3, a4, a5, a6, yop, yparty]
    rfl
  go_wp2_with (first | rw [← HW0.out] | rw [← HW2.out] | (go_at_call 104; refine (isName_any _ _ hs).mono ?_; rintro e w' ⟨rfl, rfl⟩; rw [HNB.out]) | (go_at_call 96; refine (isBit2_any _ _).mono ?_; rintro e w' ⟨rfl, rfl⟩; rw [HI1.out]) | (go_at_call 102; refine (isWidth_any _ _).mono ?_; rintro e w' ⟨rfl, rfl⟩; rw [HI2.out]) | (go_at_call 98; rw [HPW.out]; refine (within_any _ _ _ _).mono ?_; rintro e w' ⟨rfl, rfl⟩; rw [HI3.out]))
  go_ret
  exact ⟨ret_int HOK.out.symm, hb3⟩
end Go.Proofs.YtdlddkgmjpmenaaGreatDoor
