/-
  The language: the program's width of a line of kind 3.
-/
import Derived.Test.YtdlddkgmjpmenaaGreatDoorHLn
namespace Go.Proofs.YtdlddkgmjpmenaaGreatDoor
open Go.RowKit
set_option linter.unusedVariables false
set_option linter.unusedSimpArgs false

set_option maxRecDepth 100000 in
set_option maxHeartbeats 8000000 in
theorem lineWidth_any3 (w : World) (x : Ln) (pa bo : Option Addr) (n c pc : Nat) (v : List Int) (hw : Ints w w.heap.size bo n v) (hz : okZ v) (hs : x.name.size ≤ 1048576) (kk : x.kind = 3) :
    Calls Tryz.prog 78 #[lineV x pa pc, .slice bo n c] w (RetN (lnWidth x v) w) := by
  have hn := hw.le
  have hl := Lib.hid hw.1
  have HZ := Lib.hid hz
  clear hz
  obtain ⟨W0, hW0⟩ : ∃ W0, W0 = w.alloc (lineObj x pa pc) := ⟨_, rfl⟩
  have hb0 : Below w.heap.size w W0 := by rw [hW0]; exact (Below.refl _ _).alloc (Nat.le_refl _) _
  have hbx0 : BoxL W0 w.heap.size x pa pc := by rw [hW0]; exact boxL_new _ _ _ _
  have hsz0 : W0.heap.size = w.heap.size + 1 := by rw [hW0]; simp
  have HW0 := Lib.hid hW0
  clear hW0
  obtain ⟨W2, hW2⟩ : ∃ W2, W2 = W0.alloc (dueObj x pa pc) := ⟨_, rfl⟩
  have hal : Below W0.heap.size W0 W2 := by rw [hW2]; exact (Below.refl _ _).alloc (Nat.le_refl _) _
  have hbx2 : BoxN W2 W0.heap.size x.name ⟨#[]⟩ 0 0 0 := by rw [hW2]; exact boxD_new _ _ _ _
  have hsz2 : W2.heap.size = W0.heap.size + 1 := by rw [hW2]; simp
  have HW2 := Lib.hid hW2
  clear hW2
  have hb2 := hb0.trans (hal.mono hb0.size)
  obtain ⟨e0, e1, e2, e3, e4, e5, e6⟩ := hbx0
  obtain ⟨E0, E1, E2, E3, E4, E5, E6⟩ := (show BoxL W0 w.heap.size x pa pc from ⟨e0, e1, e2, e3, e4, e5, e6⟩).below hal (by omega)
  obtain ⟨N1, N2, N4, N5, N6, F1, F2, F4, F5, F6⟩ := hbx2
  have HS0 := Lib.hid hsz0
  clear hsz0 hsz2 hb0 hal
  have a1 : (x.kind == 1) = false := by simp [kk]
  have a2 : (x.kind == 2) = false := by simp [kk]
  have a3 : (x.kind == 3) = true := by simp [kk]
  have a4 : (x.kind == 4) = false := by simp [kk]
  have a5 : (x.kind == 5) = false := by simp [kk]
  have a6 : (x.kind == 6) = false := by simp [kk]
  have HPL : Hid (laParts x.kind = 2) := by show _ = _; rw [kk]; rfl
  have HLW : Hid (lnWidth x v = if ((x.kind == 6) != (x.name == ByteArray.empty) || (x.name != ByteArray.empty && !nameB x.name) || (n : Int) != 2) = true then 0 else if (!(x.kind == 3 || x.op == ByteArray.empty) || !(x.kind == 1 || x.party == 0) || !(x.kind == 1 || x.kind == 2 || x.width == 0) || !(x.kind == 2 || x.value == 0)) = true then 0 else if (n = 2 ∧ atN v 0 = atN v 1) then resW x.op (atN v 0) else 0) := by
    show _ = _
    unfold lnWidth
    rw [HPL.out, hl.out]
    simp [kk]
  have HK := Lib.hid kk
  clear kk
  by_cases hc : n = 2
  rotate_left
  · have hcb : ((n : Int) != 2) = true := by simp; omega
    have hcc : ((n : Int) == 2) = false := by simp; omega
    clear hc
    unfold lineV
    unfold lineObj at HW0
    unfold dueObj at HW2
    go_enter Tryz.func78, Tryz.ntmps78
    go_upto_region 14 with (first | rw [← HW0.out] | rw [← HW2.out])
    obtain ⟨W3, hW3⟩ : ∃ W3, W3 = W2.setCell ⟨W0.heap.size, 2, none⟩ (.string x.op) := ⟨_, rfl⟩
    have hne : W0.heap.size ≠ w.heap.size := by have := HS0.out; omega
    have hL3 : BoxL W3 w.heap.size x pa pc := by rw [hW3]; exact BoxL.far ⟨E0, E1, E2, E3, E4, E5, E6⟩ _ _ hne
    have hN3 : BoxN W3 W0.heap.size x.name x.op 0 0 0 := by rw [hW3]; exact BoxN.set2 ⟨N1, N2, N4, N5, N6, F1, F2, F4, F5, F6⟩ _
    have hb3 : Below w.heap.size w W3 := by rw [hW3]; exact below_set hb2 _ _ (by show w.heap.size ≤ W0.heap.size; have := HS0.out; omega)
    rw [← hW3]
    clear hW3 E0 E1 E2 E3 E4 E5 E6 N1 N2 N4 N5 N6 F1 F2 F4 F5 F6 e0 e1 e2 e3 e4 e5 e6 
    obtain ⟨E0, E1, E2, E3, E4, E5, E6⟩ := hL3
    obtain ⟨N1, N2, N4, N5, N6, F1, F2, F4, F5, F6⟩ := hN3
    go_quiet (fail)
    go_upto_region 25 with fail
    by_cases qname : x.name = ByteArray.empty
    · have yname := bytes_beq.2 qname
      have zname : (x.name.toList == []) = true := by rw [qname, empty_list]; rfl
      have uname : (([] : List UInt8) == x.name.toList) = true := by rw [qname, empty_list]; rfl
      clear qname
      have HF : Hid (lnWidth x v = 0) := by
        show _ = _
        rw [HLW.out]
        simp only [bne, a6, yname]
        rfl
      go_wp2_with (first | rw [← HW0.out] | rw [← HW2.out] | (go_at_call 104; refine (isName_any _ _ hs).mono ?_; rintro e w' ⟨rfl, rfl⟩; rw [HNB.out]) | (go_at_call 96; refine (isBit2_any _ _).mono ?_; rintro e w' ⟨rfl, rfl⟩; rw [HI1.out]) | (go_at_call 102; refine (isWidth_any _ _).mono ?_; rintro e w' ⟨rfl, rfl⟩; rw [HI2.out]) | (go_at_call 98; rw [HPW.out]; refine (within_any _ _ _ _).mono ?_; rintro e w' ⟨rfl, rfl⟩; rw [HI3.out]))
      go_ret
      exact ⟨ret_int HF.out.symm, bdrewN hb3 _⟩
    have yname := bytes_beq_no.2 qname
    have zname : (x.name.toList == []) = false := by rw [← empty_list]; exact seq_no qname
    have uname : (([] : List UInt8) == x.name.toList) = false := by rw [← empty_list]; exact seq_no (fun e => qname e.symm)
    clear qname
    cases hnb : nameB x.name
    · have HNB := Lib.hid hnb
      have HF : Hid (lnWidth x v = 0) := by
        show _ = _
        rw [HLW.out]
        simp only [bne, a6, yname, hnb]
        rfl
      clear hnb
      go_wp2_with (first | rw [← HW0.out] | rw [← HW2.out] | (go_at_call 104; refine (isName_any _ _ hs).mono ?_; rintro e w' ⟨rfl, rfl⟩; rw [HNB.out]) | (go_at_call 96; refine (isBit2_any _ _).mono ?_; rintro e w' ⟨rfl, rfl⟩; rw [HI1.out]) | (go_at_call 102; refine (isWidth_any _ _).mono ?_; rintro e w' ⟨rfl, rfl⟩; rw [HI2.out]) | (go_at_call 98; rw [HPW.out]; refine (within_any _ _ _ _).mono ?_; rintro e w' ⟨rfl, rfl⟩; rw [HI3.out]))
      go_ret
      exact ⟨ret_int HF.out.symm, bdrewN hb3 _⟩
    have HNB := Lib.hid hnb
    have HNC := Lib.hid hnb
    clear hnb
    have HF : Hid (lnWidth x v = 0) := by
      show _ = _
      rw [HLW.out]
      simp only [bne, a6, yname, HNC.out, hcc]
      rfl
    go_wp2_with (first | rw [← HW0.out] | rw [← HW2.out] | (go_at_call 104; refine (isName_any _ _ hs).mono ?_; rintro e w' ⟨rfl, rfl⟩; rw [HNB.out]) | (go_at_call 96; refine (isBit2_any _ _).mono ?_; rintro e w' ⟨rfl, rfl⟩; rw [HI1.out]) | (go_at_call 102; refine (isWidth_any _ _).mono ?_; rintro e w' ⟨rfl, rfl⟩; rw [HI2.out]) | (go_at_call 98; rw [HPW.out]; refine (within_any _ _ _ _).mono ?_; rintro e w' ⟨rfl, rfl⟩; rw [HI3.out]))
    go_ret
    exact ⟨ret_int HF.out.symm, bdrewN hb3 _⟩
  have hcb : ((n : Int) != 2) = false := by simp [hc]
  have hcc : ((n : Int) == 2) = true := by simp [hc]
  have hpos0 : 0 < n := by omega
  have hpos1 : 1 < n := by omega
  obtain ⟨gb, go, v0, rfl, hgb, hv0, hc0⟩ := (hw.below hb2 (Nat.le_refl _)).at (k := 0) (by omega)
  have g0 : atN v 0 = v0 := atN_get hv0
  rw [Nat.add_zero] at hc0
  obtain ⟨gb1, go1, v1, hq1, hgb1, hv1, hc1⟩ := (hw.below hb2 (Nat.le_refl _)).at (k := 1) (by omega)
  have g1 : atN v 1 = v1 := atN_get hv1
  simp only [Option.some.injEq, Addr.mk.injEq] at hq1
  obtain ⟨rfl, rfl, _⟩ := hq1
  have sv := HZ.out _ _ hv0
  clear hv0 hv1
  by_cases hvv : v0 = v1
  rotate_left
  · have hvb : (v0 == v1) = false := by simp [hvv]
    have HWAY : Hid ((if (n = 2 ∧ atN v 0 = atN v 1) then resW x.op (atN v 0) else 0) = 0) := by show _ = _; rw [if_neg (by rw [g0, g1]; exact fun e => hvv e.2)]
    clear hvv
    unfold lineV
    unfold lineObj at HW0
    unfold dueObj at HW2
    go_enter Tryz.func78, Tryz.ntmps78
    go_upto_region 14 with (first | rw [← HW0.out] | rw [← HW2.out])
    obtain ⟨W3, hW3⟩ : ∃ W3, W3 = W2.setCell ⟨W0.heap.size, 2, none⟩ (.string x.op) := ⟨_, rfl⟩
    have hne : W0.heap.size ≠ w.heap.size := by have := HS0.out; omega
    have hL3 : BoxL W3 w.heap.size x pa pc := by rw [hW3]; exact BoxL.far ⟨E0, E1, E2, E3, E4, E5, E6⟩ _ _ hne
    have hN3 : BoxN W3 W0.heap.size x.name x.op 0 0 0 := by rw [hW3]; exact BoxN.set2 ⟨N1, N2, N4, N5, N6, F1, F2, F4, F5, F6⟩ _
    have hb3 : Below w.heap.size w W3 := by rw [hW3]; exact below_set hb2 _ _ (by show w.heap.size ≤ W0.heap.size; have := HS0.out; omega)
    have khc0 := (World.cell?_setCell_far W2 ⟨W0.heap.size, 2, none⟩ ⟨gb, go, none⟩ (.string x.op) (by show W0.heap.size ≠ gb; have := HS0.out; omega)).trans hc0
    rw [← hW3] at khc0
    have khc1 := (World.cell?_setCell_far W2 ⟨W0.heap.size, 2, none⟩ ⟨gb, go + 1, none⟩ (.string x.op) (by show W0.heap.size ≠ gb; have := HS0.out; omega)).trans hc1
    rw [← hW3] at khc1
    rw [← hW3]
    clear hW3 E0 E1 E2 E3 E4 E5 E6 N1 N2 N4 N5 N6 F1 F2 F4 F5 F6 e0 e1 e2 e3 e4 e5 e6 hc0 hc1
    obtain ⟨E0, E1, E2, E3, E4, E5, E6⟩ := hL3
    obtain ⟨N1, N2, N4, N5, N6, F1, F2, F4, F5, F6⟩ := hN3
    go_quiet (fail)
    go_upto_region 25 with fail
    by_cases qname : x.name = ByteArray.empty
    · have yname := bytes_beq.2 qname
      have zname : (x.name.toList == []) = true := by rw [qname, empty_list]; rfl
      have uname : (([] : List UInt8) == x.name.toList) = true := by rw [qname, empty_list]; rfl
      clear qname
      have HF : Hid (lnWidth x v = 0) := by
        show _ = _
        rw [HLW.out]
        simp only [bne, a6, yname]
        rfl
      go_wp2_with (first | rw [← HW0.out] | rw [← HW2.out] | (go_at_call 104; refine (isName_any _ _ hs).mono ?_; rintro e w' ⟨rfl, rfl⟩; rw [HNB.out]) | (go_at_call 96; refine (isBit2_any _ _).mono ?_; rintro e w' ⟨rfl, rfl⟩; rw [HI1.out]) | (go_at_call 102; refine (isWidth_any _ _).mono ?_; rintro e w' ⟨rfl, rfl⟩; rw [HI2.out]) | (go_at_call 98; rw [HPW.out]; refine (within_any _ _ _ _).mono ?_; rintro e w' ⟨rfl, rfl⟩; rw [HI3.out]))
      go_ret
      exact ⟨ret_int HF.out.symm, bdrewN hb3 _⟩
    have yname := bytes_beq_no.2 qname
    have zname : (x.name.toList == []) = false := by rw [← empty_list]; exact seq_no qname
    have uname : (([] : List UInt8) == x.name.toList) = false := by rw [← empty_list]; exact seq_no (fun e => qname e.symm)
    clear qname
    cases hnb : nameB x.name
    · have HNB := Lib.hid hnb
      have HF : Hid (lnWidth x v = 0) := by
        show _ = _
        rw [HLW.out]
        simp only [bne, a6, yname, hnb]
        rfl
      clear hnb
      go_wp2_with (first | rw [← HW0.out] | rw [← HW2.out] | (go_at_call 104; refine (isName_any _ _ hs).mono ?_; rintro e w' ⟨rfl, rfl⟩; rw [HNB.out]) | (go_at_call 96; refine (isBit2_any _ _).mono ?_; rintro e w' ⟨rfl, rfl⟩; rw [HI1.out]) | (go_at_call 102; refine (isWidth_any _ _).mono ?_; rintro e w' ⟨rfl, rfl⟩; rw [HI2.out]) | (go_at_call 98; rw [HPW.out]; refine (within_any _ _ _ _).mono ?_; rintro e w' ⟨rfl, rfl⟩; rw [HI3.out]))
      go_ret
      exact ⟨ret_int HF.out.symm, bdrewN hb3 _⟩
    have HNB := Lib.hid hnb
    have HNC := Lib.hid hnb
    clear hnb
    by_cases qparty : x.party = 0
    rotate_left
    · have yparty : (x.party == 0) = false := by simp [qparty]
      have zparty : ((0 : Int) == x.party) = false := by simp; omega
      have uparty : ((0 : Int) != x.party) = true := by simp; omega
      clear qparty
      have HF : Hid (lnWidth x v = 0) := by
        show _ = _
        rw [HLW.out]
        simp only [bne, a6, yname, HNC.out, hcc, a1, a2, a3, a4, a5, a6, yparty]
        rfl
      go_wp2_with (first | rw [← HW0.out] | rw [← HW2.out] | (go_at_call 104; refine (isName_any _ _ hs).mono ?_; rintro e w' ⟨rfl, rfl⟩; rw [HNB.out]) | (go_at_call 96; refine (isBit2_any _ _).mono ?_; rintro e w' ⟨rfl, rfl⟩; rw [HI1.out]) | (go_at_call 102; refine (isWidth_any _ _).mono ?_; rintro e w' ⟨rfl, rfl⟩; rw [HI2.out]) | (go_at_call 98; rw [HPW.out]; refine (within_any _ _ _ _).mono ?_; rintro e w' ⟨rfl, rfl⟩; rw [HI3.out]))
      go_ret
      exact ⟨ret_int HF.out.symm, bdrewN hb3 _⟩
    have yparty : (x.party == 0) = true := by simp [qparty]
    have zparty : ((0 : Int) == x.party) = true := by simp [qparty]
    have uparty : ((0 : Int) != x.party) = false := by simp [qparty]
    clear qparty
    by_cases qwidth : x.width = 0
    rotate_left
    · have ywidth : (x.width == 0) = false := by simp [qwidth]
      have zwidth : ((0 : Int) == x.width) = false := by simp; omega
      have uwidth : ((0 : Int) != x.width) = true := by simp; omega
      clear qwidth
      have HF : Hid (lnWidth x v = 0) := by
        show _ = _
        rw [HLW.out]
        simp only [bne, a6, yname, HNC.out, hcc, a1, a2, a3, a4, a5, a6, yparty, ywidth]
        rfl
      go_wp2_with (first | rw [← HW0.out] | rw [← HW2.out] | (go_at_call 104; refine (isName_any _ _ hs).mono ?_; rintro e w' ⟨rfl, rfl⟩; rw [HNB.out]) | (go_at_call 96; refine (isBit2_any _ _).mono ?_; rintro e w' ⟨rfl, rfl⟩; rw [HI1.out]) | (go_at_call 102; refine (isWidth_any _ _).mono ?_; rintro e w' ⟨rfl, rfl⟩; rw [HI2.out]) | (go_at_call 98; rw [HPW.out]; refine (within_any _ _ _ _).mono ?_; rintro e w' ⟨rfl, rfl⟩; rw [HI3.out]))
      go_ret
      exact ⟨ret_int HF.out.symm, bdrewN hb3 _⟩
    have ywidth : (x.width == 0) = true := by simp [qwidth]
    have zwidth : ((0 : Int) == x.width) = true := by simp [qwidth]
    have uwidth : ((0 : Int) != x.width) = false := by simp [qwidth]
    clear qwidth
    by_cases qvalue : x.value = 0
    rotate_left
    · have yvalue : (x.value == 0) = false := by simp [qvalue]
      have zvalue : ((0 : Int) == x.value) = false := by simp; omega
      have uvalue : ((0 : Int) != x.value) = true := by simp; omega
      clear qvalue
      have HF : Hid (lnWidth x v = 0) := by
        show _ = _
        rw [HLW.out]
        simp only [bne, a6, yname, HNC.out, hcc, a1, a2, a3, a4, a5, a6, yparty, ywidth, yvalue]
        rfl
      go_wp2_with (first | rw [← HW0.out] | rw [← HW2.out] | (go_at_call 104; refine (isName_any _ _ hs).mono ?_; rintro e w' ⟨rfl, rfl⟩; rw [HNB.out]) | (go_at_call 96; refine (isBit2_any _ _).mono ?_; rintro e w' ⟨rfl, rfl⟩; rw [HI1.out]) | (go_at_call 102; refine (isWidth_any _ _).mono ?_; rintro e w' ⟨rfl, rfl⟩; rw [HI2.out]) | (go_at_call 98; rw [HPW.out]; refine (within_any _ _ _ _).mono ?_; rintro e w' ⟨rfl, rfl⟩; rw [HI3.out]))
      go_ret
      exact ⟨ret_int HF.out.symm, bdrewN hb3 _⟩
    have yvalue : (x.value == 0) = true := by simp [qvalue]
    have zvalue : ((0 : Int) == x.value) = true := by simp [qvalue]
    have uvalue : ((0 : Int) != x.value) = false := by simp [qvalue]
    clear qvalue
    have HOK : Hid (lnWidth x v = 0) := by
      show _ = _
      rw [HLW.out, HWAY.out]
      simp only [bne, a6, yname, HNC.out, hcc, a1, a2, a3, a4, a5, a6, yparty, ywidth, yvalue]
      rfl
    go_wp2_with (first | rw [← HW0.out] | rw [← HW2.out] | (go_at_call 104; refine (isName_any _ _ hs).mono ?_; rintro e w' ⟨rfl, rfl⟩; rw [HNB.out]) | (go_at_call 96; refine (isBit2_any _ _).mono ?_; rintro e w' ⟨rfl, rfl⟩; rw [HI1.out]) | (go_at_call 102; refine (isWidth_any _ _).mono ?_; rintro e w' ⟨rfl, rfl⟩; rw [HI2.out]) | (go_at_call 98; rw [HPW.out]; refine (within_any _ _ _ _).mono ?_; rintro e w' ⟨rfl, rfl⟩; rw [HI3.out]))
    go_ret
    exact ⟨ret_int HOK.out.symm, bdrewN hb3 _⟩
  have hvb : (v0 == v1) = true := by simp [hvv]
  have HWAY : Hid ((if (n = 2 ∧ atN v 0 = atN v 1) then resW x.op (atN v 0) else 0) = resW x.op v0) := by show _ = _; rw [if_pos ⟨hc, by rw [g0, g1]; exact hvv⟩, g0]
  clear hvv
  unfold lineV
  unfold lineObj at HW0
  unfold dueObj at HW2
  go_enter Tryz.func78, Tryz.ntmps78
  go_upto_region 14 with (first | rw [← HW0.out] | rw [← HW2.out])
  obtain ⟨W3, hW3⟩ : ∃ W3, W3 = W2.setCell ⟨W0.heap.size, 2, none⟩ (.string x.op) := ⟨_, rfl⟩
  have hne : W0.heap.size ≠ w.heap.size := by have := HS0.out; omega
  have hL3 : BoxL W3 w.heap.size x pa pc := by rw [hW3]; exact BoxL.far ⟨E0, E1, E2, E3, E4, E5, E6⟩ _ _ hne
  have hN3 : BoxN W3 W0.heap.size x.name x.op 0 0 0 := by rw [hW3]; exact BoxN.set2 ⟨N1, N2, N4, N5, N6, F1, F2, F4, F5, F6⟩ _
  have hb3 : Below w.heap.size w W3 := by rw [hW3]; exact below_set hb2 _ _ (by show w.heap.size ≤ W0.heap.size; have := HS0.out; omega)
  have khc0 := (World.cell?_setCell_far W2 ⟨W0.heap.size, 2, none⟩ ⟨gb, go, none⟩ (.string x.op) (by show W0.heap.size ≠ gb; have := HS0.out; omega)).trans hc0
  rw [← hW3] at khc0
  have khc1 := (World.cell?_setCell_far W2 ⟨W0.heap.size, 2, none⟩ ⟨gb, go + 1, none⟩ (.string x.op) (by show W0.heap.size ≠ gb; have := HS0.out; omega)).trans hc1
  rw [← hW3] at khc1
  rw [← hW3]
  clear hW3 E0 E1 E2 E3 E4 E5 E6 N1 N2 N4 N5 N6 F1 F2 F4 F5 F6 e0 e1 e2 e3 e4 e5 e6 hc0 hc1
  obtain ⟨E0, E1, E2, E3, E4, E5, E6⟩ := hL3
  obtain ⟨N1, N2, N4, N5, N6, F1, F2, F4, F5, F6⟩ := hN3
  go_quiet (fail)
  go_upto_region 15 with fail
  go_quiet ((go_at_call 103; exact quiet_add_left (resultWidth_any _ _ _ sv)))
  go_upto_region 25 with fail
  by_cases qname : x.name = ByteArray.empty
  · have yname := bytes_beq.2 qname
    have zname : (x.name.toList == []) = true := by rw [qname, empty_list]; rfl
    have uname : (([] : List UInt8) == x.name.toList) = true := by rw [qname, empty_list]; rfl
    clear qname
    have HF : Hid (lnWidth x v = 0) := by
      show _ = _
      rw [HLW.out]
      simp only [bne, a6, yname]
      rfl
    go_wp2_with (first | rw [← HW0.out] | rw [← HW2.out] | (go_at_call 104; refine (isName_any _ _ hs).mono ?_; rintro e w' ⟨rfl, rfl⟩; rw [HNB.out]) | (go_at_call 96; refine (isBit2_any _ _).mono ?_; rintro e w' ⟨rfl, rfl⟩; rw [HI1.out]) | (go_at_call 102; refine (isWidth_any _ _).mono ?_; rintro e w' ⟨rfl, rfl⟩; rw [HI2.out]) | (go_at_call 98; rw [HPW.out]; refine (within_any _ _ _ _).mono ?_; rintro e w' ⟨rfl, rfl⟩; rw [HI3.out]))
    go_ret
    exact ⟨ret_int HF.out.symm, bdrewN hb3 _⟩
  have yname := bytes_beq_no.2 qname
  have zname : (x.name.toList == []) = false := by rw [← empty_list]; exact seq_no qname
  have uname : (([] : List UInt8) == x.name.toList) = false := by rw [← empty_list]; exact seq_no (fun e => qname e.symm)
  clear qname
  cases hnb : nameB x.name
  · have HNB := Lib.hid hnb
    have HF : Hid (lnWidth x v = 0) := by
      show _ = _
      rw [HLW.out]
      simp only [bne, a6, yname, hnb]
      rfl
    clear hnb
    go_wp2_with (first | rw [← HW0.out] | rw [← HW2.out] | (go_at_call 104; refine (isName_any _ _ hs).mono ?_; rintro e w' ⟨rfl, rfl⟩; rw [HNB.out]) | (go_at_call 96; refine (isBit2_any _ _).mono ?_; rintro e w' ⟨rfl, rfl⟩; rw [HI1.out]) | (go_at_call 102; refine (isWidth_any _ _).mono ?_; rintro e w' ⟨rfl, rfl⟩; rw [HI2.out]) | (go_at_call 98; rw [HPW.out]; refine (within_any _ _ _ _).mono ?_; rintro e w' ⟨rfl, rfl⟩; rw [HI3.out]))
    go_ret
    exact ⟨ret_int HF.out.symm, bdrewN hb3 _⟩
  have HNB := Lib.hid hnb
  have HNC := Lib.hid hnb
  clear hnb
  by_cases qparty : x.party = 0
  rotate_left
  · have yparty : (x.party == 0) = false := by simp [qparty]
    have zparty : ((0 : Int) == x.party) = false := by simp; omega
    have uparty : ((0 : Int) != x.party) = true := by simp; omega
    clear qparty
    have HF : Hid (lnWidth x v = 0) := by
      show _ = _
      rw [HLW.out]
      simp only [bne, a6, yname, HNC.out, hcc, a1, a2, a3, a4, a5, a6, yparty]
      rfl
    go_wp2_with (first | rw [← HW0.out] | rw [← HW2.out] | (go_at_call 104; refine (isName_any _ _ hs).mono ?_; rintro e w' ⟨rfl, rfl⟩; rw [HNB.out]) | (go_at_call 96; refine (isBit2_any _ _).mono ?_; rintro e w' ⟨rfl, rfl⟩; rw [HI1.out]) | (go_at_call 102; refine (isWidth_any _ _).mono ?_; rintro e w' ⟨rfl, rfl⟩; rw [HI2.out]) | (go_at_call 98; rw [HPW.out]; refine (within_any _ _ _ _).mono ?_; rintro e w' ⟨rfl, rfl⟩; rw [HI3.out]))
    go_ret
    exact ⟨ret_int HF.out.symm, bdrewN hb3 _⟩
  have yparty : (x.party == 0) = true := by simp [qparty]
  have zparty : ((0 : Int) == x.party) = true := by simp [qparty]
  have uparty : ((0 : Int) != x.party) = false := by simp [qparty]
  clear qparty
  by_cases qwidth : x.width = 0
  rotate_left
  · have ywidth : (x.width == 0) = false := by simp [qwidth]
    have zwidth : ((0 : Int) == x.width) = false := by simp; omega
    have uwidth : ((0 : Int) != x.width) = true := by simp; omega
    clear qwidth
    have HF : Hid (lnWidth x v = 0) := by
      show _ = _
      rw [HLW.out]
      simp only [bne, a6, yname, HNC.out, hcc, a1, a2, a3, a4, a5, a6, yparty, ywidth]
      rfl
    go_wp2_with (first | rw [← HW0.out] | rw [← HW2.out] | (go_at_call 104; refine (isName_any _ _ hs).mono ?_; rintro e w' ⟨rfl, rfl⟩; rw [HNB.out]) | (go_at_call 96; refine (isBit2_any _ _).mono ?_; rintro e w' ⟨rfl, rfl⟩; rw [HI1.out]) | (go_at_call 102; refine (isWidth_any _ _).mono ?_; rintro e w' ⟨rfl, rfl⟩; rw [HI2.out]) | (go_at_call 98; rw [HPW.out]; refine (within_any _ _ _ _).mono ?_; rintro e w' ⟨rfl, rfl⟩; rw [HI3.out]))
    go_ret
    exact ⟨ret_int HF.out.symm, bdrewN hb3 _⟩
  have ywidth : (x.width == 0) = true := by simp [qwidth]
  have zwidth : ((0 : Int) == x.width) = true := by simp [qwidth]
  have uwidth : ((0 : Int) != x.width) = false := by simp [qwidth]
  clear qwidth
  by_cases qvalue : x.value = 0
  rotate_left
  · have yvalue : (x.value == 0) = false := by simp [qvalue]
    have zvalue : ((0 : Int) == x.value) = false := by simp; omega
    have uvalue : ((0 : Int) != x.value) = true := by simp; omega
    clear qvalue
    have HF : Hid (lnWidth x v = 0) := by
      show _ = _
      rw [HLW.out]
      simp only [bne, a6, yname, HNC.out, hcc, a1, a2, a3, a4, a5, a6, yparty, ywidth, yvalue]
      rfl
    go_wp2_with (first | rw [← HW0.out] | rw [← HW2.out] | (go_at_call 104; refine (isName_any _ _ hs).mono ?_; rintro e w' ⟨rfl, rfl⟩; rw [HNB.out]) | (go_at_call 96; refine (isBit2_any _ _).mono ?_; rintro e w' ⟨rfl, rfl⟩; rw [HI1.out]) | (go_at_call 102; refine (isWidth_any _ _).mono ?_; rintro e w' ⟨rfl, rfl⟩; rw [HI2.out]) | (go_at_call 98; rw [HPW.out]; refine (within_any _ _ _ _).mono ?_; rintro e w' ⟨rfl, rfl⟩; rw [HI3.out]))
    go_ret
    exact ⟨ret_int HF.out.symm, bdrewN hb3 _⟩
  have yvalue : (x.value == 0) = true := by simp [qvalue]
  have zvalue : ((0 : Int) == x.value) = true := by simp [qvalue]
  have uvalue : ((0 : Int) != x.value) = false := by simp [qvalue]
  clear qvalue
  have HOK : Hid (lnWidth x v = (resW x.op v0)) := by
    show _ = _
    rw [HLW.out, HWAY.out]
    simp only [bne, a6, yname, HNC.out, hcc, a1, a2, a3, a4, a5, a6, yparty, ywidth, yvalue]
    rfl
  go_wp2_with (first | rw [← HW0.out] | rw [← HW2.out] | (go_at_call 104; refine (isName_any _ _ hs).mono ?_; rintro e w' ⟨rfl, rfl⟩; rw [HNB.out]) | (go_at_call 96; refine (isBit2_any _ _).mono ?_; rintro e w' ⟨rfl, rfl⟩; rw [HI1.out]) | (go_at_call 102; refine (isWidth_any _ _).mono ?_; rintro e w' ⟨rfl, rfl⟩; rw [HI2.out]) | (go_at_call 98; rw [HPW.out]; refine (within_any _ _ _ _).mono ?_; rintro e w' ⟨rfl, rfl⟩; rw [HI3.out]))
  go_ret
  exact ⟨ret_int HOK.out.symm, bdrewN hb3 _⟩
end Go.Proofs.YtdlddkgmjpmenaaGreatDoor
