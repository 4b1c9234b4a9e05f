/-
  The language: the reference's width of a line of kind 1.
-/
import Derived.Test.YtdlddkgmjpmenaaGreatDoorHLn
namespace Go.Proofs.YtdlddkgmjpmenaaGreatDoor
open Go.RowKit
set_option linter.unusedVariables false
set_option linter.unusedSimpArgs false

set_option maxRecDepth 20000 in
set_option maxHeartbeats 8000000 in
theorem laWidth_any1 (w : World) (ao bo pa : Option Addr) (n c d pc : Nat) (ls : List Ln) (ws : List Int) (x : Ln) (h : Lns w w.heap.size ao n ls) (hw : Ints w w.heap.size bo n ws) (hp : Strs w w.heap.size pa x.parts.length x.parts) (hz : okZ ws) (hs : x.name.size ≤ 1048576) (hs2 : x.parts.length ≤ 1048576) (kk1 : x.kind = 1) :
    Calls Tryz.prog 83 #[.slice ao n c, .slice bo n d, .agg #[.int .i64 x.kind, .string x.name, .string x.op, .slice pa x.parts.length pc, .int .i64 x.party, .int .i64 x.width, .int .i64 x.value]] w (RetN (laWidth ls ws x) w) := by
  have hn := h.le
  have hl := Lib.hid h.1
  have hpn := hp.le
  obtain ⟨W0, hW0⟩ : ∃ W0, W0 = w.alloc (lineObj x pa pc) := ⟨_, rfl⟩
  have hb0 : Below w.heap.size w W0 := by rw [hW0]; exact (Below.refl _ _).alloc (Nat.le_refl _) _
  have hbx0 : BoxL W0 w.heap.size x pa pc := by rw [hW0]; exact boxL_new _ _ _ _
  have hsz0 : w.heap.size < W0.heap.size := by rw [hW0]; simp
  have HW0 := Lib.hid hW0
  have HZ := Lib.hid hz
  clear hW0 hz
  unfold lineObj at HW0
  have HBX := Lib.hid hbx0
  obtain ⟨e0, e1, e2, e3, e4, e5, e6⟩ := hbx0
  have HKK := Lib.hid kk1
  clear kk1
  go_enter Tryz.func83, Tryz.ntmps83
  go_wp2_with (rw [← HW0.out])
  clear e0 e1 e2 e3 e4 e5 e6
  go_loopw [7, 15] (fun out i wr => ∃ (k : Nat) (co : Option Addr) (cap : Nat) (v : List Int), k ≤ x.parts.length ∧ i = .int .i64 k ∧ out = .slice co k cap ∧ OwnI W0.heap.size wr co k cap v ∧ Hid (partsBy (findF ls) ws (x.parts.take k) = some v) ∧ Hid (okZ v) ∧ Below W0.heap.size W0 wr) (fun _ i _ => x.parts.length - (intOf i).toNat)
  case atStart => exact ⟨0, _, _, [], Nat.zero_le _, rfl, rfl, OwnI.nil _ _ _, by show _ = _; simp [partsBy], by intro i y hy; simp at hy, Below.refl _ _⟩
  case round =>
    obtain ⟨k, co, cap, v, hk, rfl, rfl, hout, HV, HVZ, hbel⟩ := hrel
    have hbelw := hb0.trans (hbel.mono hb0.size)
    by_cases hlt : k < x.parts.length
    · obtain ⟨b1, o1, p, rfl, hbb1, hx, q1⟩ := hp.at hlt
      have g1 : wr.cell? ⟨b1, o1 + k, none⟩ = some (.string p) := (hbelw.cell (by exact hbb1)).trans q1
      have hL := (h.below hbelw (Nat.le_refl _)).up hbelw.size
      have HX := Lib.hid hx
      clear hx q1
      go_wp2_with fail
      refine (laFind_any _ _ _ _ _ _ _ hL (Nat.le_refl _)).mono ?_
      rintro e w2 ⟨rfl, hb2⟩
      have hbel2 := hbel.trans (hb2.mono hbel.size)
      have hbelw2 := hb0.trans (hbel2.mono hb0.size)
      have hout2 := hout.below hb2 (Nat.le_refl _)
      have hr := findF_range ls p
      by_cases hneg : findF ls p < 0
      · have HF : Hid (laWidth ls ws x = 0) := by show _ = _; unfold laWidth; rw [partsBy_miss HX.out hneg]
        obtain ⟨f, hf⟩ : ∃ f, f = findF ls p := ⟨_, rfl⟩
        rw [← hf] at hneg ⊢
        clear hf hr
        go_wp2_with fail
        go_ret
        exact ⟨ret_int HF.out.symm, hbelw2⟩
      · have HSN := Lib.hid (partsBy_snoc HX.out HV.out hneg)
        have HAT := Lib.hid (okZ_at HZ.out (findF ls p))
        obtain ⟨f, hf⟩ := Int.eq_ofNat_of_zero_le (show 0 ≤ findF ls p by omega)
        rw [hf] at hneg hr HSN HAT ⊢
        have hfn : f < n := by rw [← hl.out]; omega
        have hneg' : decide ((f : Int) < 0) = false := by simp
        obtain ⟨b2, o2, y, rfl, hbb2, hy, q2⟩ := (hw.below hbelw2 (Nat.le_refl _)).at hfn
        rw [atN_get hy] at HSN HAT
        clear hf hr hy hneg
        go_wp2_with (at_builtin; refine wpList_append_i rfl _ _ rfl W0.heap.size _ _ _ _ _ rfl rfl hout2 (by omega) hbel2.size ?_; intro ao' cap' w4 hown4 hg4)
        have hbr4 := below_append hbel2 hout2.2.2 hg4 hbel2.size
        go_roundw
        case rel => exact ⟨k + 1, ao', cap', _, by omega, by go_num, rfl, hown4, HSN, okZ_snoc HVZ.out HAT.out, hbr4⟩
        case measure => simp [intOf] <;> omega
    · obtain rfl : k = x.parts.length := by omega
      rw [List.take_of_length_le (Nat.le_refl _)] at HV
      have hvl := Lib.hid hout.1
      have HLW : Hid (laWidth ls ws x = if (x.kind != 6 && (!nameB x.name || decide (0 ≤ findF ls x.name))) = true then 0 else if (!fieldsB x || ((x.parts.length : Nat) : Int) != laParts x.kind) = true then 0 else kindW x v) := by
        show _ = _
        unfold laWidth
        rw [HV.out]
        dsimp only
        rw [hvl.out]
      have hL := (h.below hbelw (Nat.le_refl _)).up hbelw.size
      obtain ⟨e0, e1, e2, e3, e4, e5, e6⟩ := HBX.out.below hbel hsz0
      obtain ⟨W2, hW2⟩ : ∃ W2, W2 = wr.alloc (lineObj x pa pc) := ⟨_, rfl⟩
      have hal : Below wr.heap.size wr W2 := by rw [hW2]; exact (Below.refl _ _).alloc (Nat.le_refl _) _
      have hnew : BoxN W2 wr.heap.size x.name x.op x.party x.width x.value := by rw [hW2]; exact boxN_new _ _ _ _
      have hszn : wr.heap.size < W2.heap.size := by rw [hW2]; simp
      have HW2 := Lib.hid hW2
      clear hW2
      unfold lineObj at HW2
      have hbel2 := hbel.trans (hal.mono hbel.size)
      have hbelw2 := hb0.trans (hbel2.mono hb0.size)
      have hnx : wr.heap.size ≠ w.heap.size := by have := hbel.size; omega
      have hxn : w.heap.size ≠ wr.heap.size := fun q => hnx q.symm
      have hout2 := hout.below hal (Nat.le_refl _)
      obtain ⟨E0, E1, E2, E3, E4, E5, E6⟩ := HBX.out.below hbel2 hsz0
      have HNEW := Lib.hid hnew
      obtain ⟨N1, N2, N4, N5, N6, F1, F2, F4, F5, F6⟩ := hnew
      have HL2 := Lib.hid ((h.below hbelw2 (Nat.le_refl _)).up hbelw2.size)
      have kk1 := HKK.out
      have kk := kk1
      have a1 : (x.kind == 1) = true := by simp [kk]
      have b1 : (x.kind != 1) = false := by simp [kk]
      have a2 : (x.kind == 2) = false := by simp [kk]
      have b2 : (x.kind != 2) = true := by simp [kk]
      have a3 : (x.kind == 3) = false := by simp [kk]
      have b3 : (x.kind != 3) = true := by simp [kk]
      have a4 : (x.kind == 4) = false := by simp [kk]
      have b4 : (x.kind != 4) = true := by simp [kk]
      have a5 : (x.kind == 5) = false := by simp [kk]
      have b5 : (x.kind != 5) = true := by simp [kk]
      have a6 : (x.kind == 6) = false := by simp [kk]
      have b6 : (x.kind != 6) = true := by simp [kk]
      have HPL : Hid (laParts x.kind = 0) := by show _ = _; rw [kk]; rfl
      have HK := Lib.hid kk
      clear kk kk1
      cases hnb : nameB x.name
      · have HNB := Lib.hid hnb
        have HF : Hid (laWidth ls ws x = 0) := by show _ = _; rw [HLW.out, if_pos (by simp [b6, hnb])]
        clear hnb
        go_wp2_with (first | rw [← HW2.out] | (go_at_call 105; refine (laName_any _ _ hs).mono ?_; rintro e w' ⟨rfl, rfl⟩; rw [HNB.out]) | (go_at_call 49; refine (laFind_any _ _ _ _ _ _ _ HL2.out (Nat.le_refl _)).mono ?_; rintro e w5 ⟨rfl, hb5⟩; obtain ⟨N1, N2, N4, N5, N6, F1, F2, F4, F5, F6⟩ := HNEW.out.below hb5 hszn; obtain ⟨E0, E1, E2, E3, E4, E5, E6⟩ := HBX.out.below (hbel2.trans (hb5.mono hbel2.size)) hsz0) | (go_at_call 75; refine (laParts_any _ _).mono ?_; rintro e w' ⟨rfl, rfl⟩; rw [HPL.out]) | (go_at_call 95; refine (l1In_any _ _ _ _).mono ?_; rintro e w' ⟨rfl, rfl⟩; first | rw [HI1.out] | rw [HI2.out]))
        go_ret
        exact ⟨ret_int HF.out.symm, hbelw2⟩
      have HNB := Lib.hid hnb
      clear hnb
      by_cases hge : 0 ≤ findF ls x.name
      · have HF : Hid (laWidth ls ws x = 0) := by show _ = _; rw [HLW.out, if_pos (by simp [b6, hge])]
        have hge' : decide (findF ls x.name ≥ 0) = true := by simp [hge]
        go_wp2_with (first | rw [← HW2.out] | (go_at_call 105; refine (laName_any _ _ hs).mono ?_; rintro e w' ⟨rfl, rfl⟩; rw [HNB.out]) | (go_at_call 49; refine (laFind_any _ _ _ _ _ _ _ HL2.out (Nat.le_refl _)).mono ?_; rintro e w5 ⟨rfl, hb5⟩; obtain ⟨N1, N2, N4, N5, N6, F1, F2, F4, F5, F6⟩ := HNEW.out.below hb5 hszn; obtain ⟨E0, E1, E2, E3, E4, E5, E6⟩ := HBX.out.below (hbel2.trans (hb5.mono hbel2.size)) hsz0) | (go_at_call 75; refine (laParts_any _ _).mono ?_; rintro e w' ⟨rfl, rfl⟩; rw [HPL.out]) | (go_at_call 95; refine (l1In_any _ _ _ _).mono ?_; rintro e w' ⟨rfl, rfl⟩; first | rw [HI1.out] | rw [HI2.out]))
        go_ret
        exact ⟨ret_int HF.out.symm, hbelw2.trans (hb5.mono hbelw2.size)⟩
      have hge' : decide (findF ls x.name ≥ 0) = false := by simp; omega
      by_cases qop : x.op = ByteArray.empty
      rotate_left
      · have yop := bytes_beq_no.2 qop
        have zop : (x.op.toList == []) = false := by rw [← empty_list]; exact seq_no qop
        have uop : (([] : List UInt8) == x.op.toList) = false := by rw [← empty_list]; exact seq_no (fun e => qop e.symm)
        have HF : Hid (laWidth ls ws x = 0) := by
          show _ = _
          rw [HLW.out]
          split
          · rfl
          rw [if_pos (by rw [show fieldsB x = false from by simp [fieldsB, a1, a2, a3, a4, a5, a6, b1, b2, b3, b4, b5, b6, yop]]; rfl)]
        clear qop
        go_wp2_with (first | rw [← HW2.out] | (go_at_call 105; refine (laName_any _ _ hs).mono ?_; rintro e w' ⟨rfl, rfl⟩; rw [HNB.out]) | (go_at_call 49; refine (laFind_any _ _ _ _ _ _ _ HL2.out (Nat.le_refl _)).mono ?_; rintro e w5 ⟨rfl, hb5⟩; obtain ⟨N1, N2, N4, N5, N6, F1, F2, F4, F5, F6⟩ := HNEW.out.below hb5 hszn; obtain ⟨E0, E1, E2, E3, E4, E5, E6⟩ := HBX.out.below (hbel2.trans (hb5.mono hbel2.size)) hsz0) | (go_at_call 75; refine (laParts_any _ _).mono ?_; rintro e w' ⟨rfl, rfl⟩; rw [HPL.out]) | (go_at_call 95; refine (l1In_any _ _ _ _).mono ?_; rintro e w' ⟨rfl, rfl⟩; first | rw [HI1.out] | rw [HI2.out]))
        go_ret
        exact ⟨ret_int HF.out.symm, (Below.setCell (Below.setCell (hbelw2.trans (hb5.mono hbelw2.size)) hbelw.size _) hbelw.size _)⟩
      have yop := bytes_beq.2 qop
      have zop : (x.op.toList == []) = true := by rw [qop, empty_list]; rfl
      have uop : (([] : List UInt8) == x.op.toList) = true := by rw [qop, empty_list]; rfl
      clear qop
      by_cases qvalue : x.value = 0
      rotate_left
      · have yvalue : (x.value == 0) = false := by simp [qvalue]
        have zvalue : ((0 : Int) == x.value) = false := by simp; omega
        have uvalue : ((0 : Int) != x.value) = true := by simp; omega
        have HF : Hid (laWidth ls ws x = 0) := by
          show _ = _
          rw [HLW.out]
          split
          · rfl
          rw [if_pos (by rw [show fieldsB x = false from by simp [fieldsB, a1, a2, a3, a4, a5, a6, b1, b2, b3, b4, b5, b6, yvalue]]; rfl)]
        clear qvalue
        go_wp2_with (first | rw [← HW2.out] | (go_at_call 105; refine (laName_any _ _ hs).mono ?_; rintro e w' ⟨rfl, rfl⟩; rw [HNB.out]) | (go_at_call 49; refine (laFind_any _ _ _ _ _ _ _ HL2.out (Nat.le_refl _)).mono ?_; rintro e w5 ⟨rfl, hb5⟩; obtain ⟨N1, N2, N4, N5, N6, F1, F2, F4, F5, F6⟩ := HNEW.out.below hb5 hszn; obtain ⟨E0, E1, E2, E3, E4, E5, E6⟩ := HBX.out.below (hbel2.trans (hb5.mono hbel2.size)) hsz0) | (go_at_call 75; refine (laParts_any _ _).mono ?_; rintro e w' ⟨rfl, rfl⟩; rw [HPL.out]) | (go_at_call 95; refine (l1In_any _ _ _ _).mono ?_; rintro e w' ⟨rfl, rfl⟩; first | rw [HI1.out] | rw [HI2.out]))
        go_ret
        exact ⟨ret_int HF.out.symm, (Below.setCell (Below.setCell (hbelw2.trans (hb5.mono hbelw2.size)) hbelw.size _) hbelw.size _)⟩
      have yvalue : (x.value == 0) = true := by simp [qvalue]
      have zvalue : ((0 : Int) == x.value) = true := by simp [qvalue]
      have uvalue : ((0 : Int) != x.value) = false := by simp [qvalue]
      clear qvalue
      by_cases qlen : x.parts.length = 0
      rotate_left
      · have ylen : (((x.parts.length : Nat) : Int) != 0) = true := by rw [bne_iff_ne]; omega
        have zlen : (((x.parts.length : Nat) : Int) == 0) = false := by rw [beq_eq_false_iff_ne]; omega
        have HF : Hid (laWidth ls ws x = 0) := by
          show _ = _
          rw [HLW.out]
          split
          · rfl
          rw [if_pos (by rw [HPL.out, ylen]; simp)]
        clear qlen
        go_wp2_with (first | rw [← HW2.out] | (go_at_call 105; refine (laName_any _ _ hs).mono ?_; rintro e w' ⟨rfl, rfl⟩; rw [HNB.out]) | (go_at_call 49; refine (laFind_any _ _ _ _ _ _ _ HL2.out (Nat.le_refl _)).mono ?_; rintro e w5 ⟨rfl, hb5⟩; obtain ⟨N1, N2, N4, N5, N6, F1, F2, F4, F5, F6⟩ := HNEW.out.below hb5 hszn; obtain ⟨E0, E1, E2, E3, E4, E5, E6⟩ := HBX.out.below (hbel2.trans (hb5.mono hbel2.size)) hsz0) | (go_at_call 75; refine (laParts_any _ _).mono ?_; rintro e w' ⟨rfl, rfl⟩; rw [HPL.out]) | (go_at_call 95; refine (l1In_any _ _ _ _).mono ?_; rintro e w' ⟨rfl, rfl⟩; first | rw [HI1.out] | rw [HI2.out]))
        go_ret
        exact ⟨ret_int HF.out.symm, (Below.setCell (Below.setCell (hbelw2.trans (hb5.mono hbelw2.size)) hbelw.size _) hbelw.size _)⟩
      have ylen : (((x.parts.length : Nat) : Int) != 0) = false := by rw [bne_eq_false_iff_eq]; omega
      have zlen : (((x.parts.length : Nat) : Int) == 0) = true := by rw [beq_iff_eq]; omega
      have HQL := Lib.hid qlen
      clear qlen
      have HOK : Hid (laWidth ls ws x = kindW x v) := by
        show _ = _
        rw [HLW.out, if_neg (by rw [HNB.out]; simp [hge]), if_neg (by rw [HPL.out, ylen]; simp [fieldsB, a1, a2, a3, a4, a5, a6, b1, b2, b3, b4, b5, b6, yop, yvalue, ylen])]
      have HKW : Hid (kindW x v = if (inB x.party 0 1 && inB x.width 1 10) = true then x.width else 0) := by show _ = _; simp [kindW, HK.out]
      cases hi1 : inB x.party 0 1
      · have HI1 := Lib.hid hi1
        have HI2 := Lib.hid hi1
        have HR : Hid (kindW x v = 0) := by show _ = _; rw [HKW.out, hi1]; rfl
        clear hi1
        go_wp2_with (first | rw [← HW2.out] | (go_at_call 105; refine (laName_any _ _ hs).mono ?_; rintro e w' ⟨rfl, rfl⟩; rw [HNB.out]) | (go_at_call 49; refine (laFind_any _ _ _ _ _ _ _ HL2.out (Nat.le_refl _)).mono ?_; rintro e w5 ⟨rfl, hb5⟩; obtain ⟨N1, N2, N4, N5, N6, F1, F2, F4, F5, F6⟩ := HNEW.out.below hb5 hszn; obtain ⟨E0, E1, E2, E3, E4, E5, E6⟩ := HBX.out.below (hbel2.trans (hb5.mono hbel2.size)) hsz0) | (go_at_call 75; refine (laParts_any _ _).mono ?_; rintro e w' ⟨rfl, rfl⟩; rw [HPL.out]) | (go_at_call 95; refine (l1In_any _ _ _ _).mono ?_; rintro e w' ⟨rfl, rfl⟩; first | rw [HI1.out] | rw [HI2.out]))
        go_ret
        exact ⟨ret_int (by rw [HOK.out, HR.out]), (Below.setCell (Below.setCell (hbelw2.trans (hb5.mono hbelw2.size)) hbelw.size _) hbelw.size _)⟩
      cases hi2 : inB x.width 1 10
      · have HI1 := Lib.hid hi1
        have HI2 := Lib.hid hi2
        have HR : Hid (kindW x v = 0) := by show _ = _; rw [HKW.out, hi1, hi2]; rfl
        clear hi1 hi2
        go_wp2_with (first | rw [← HW2.out] | (go_at_call 105; refine (laName_any _ _ hs).mono ?_; rintro e w' ⟨rfl, rfl⟩; rw [HNB.out]) | (go_at_call 49; refine (laFind_any _ _ _ _ _ _ _ HL2.out (Nat.le_refl _)).mono ?_; rintro e w5 ⟨rfl, hb5⟩; obtain ⟨N1, N2, N4, N5, N6, F1, F2, F4, F5, F6⟩ := HNEW.out.below hb5 hszn; obtain ⟨E0, E1, E2, E3, E4, E5, E6⟩ := HBX.out.below (hbel2.trans (hb5.mono hbel2.size)) hsz0) | (go_at_call 75; refine (laParts_any _ _).mono ?_; rintro e w' ⟨rfl, rfl⟩; rw [HPL.out]) | (go_at_call 95; refine (l1In_any _ _ _ _).mono ?_; rintro e w' ⟨rfl, rfl⟩; first | rw [HI1.out] | rw [HI2.out]))
        go_ret
        exact ⟨ret_int (by rw [HOK.out, HR.out]), (Below.setCell (Below.setCell (hbelw2.trans (hb5.mono hbelw2.size)) hbelw.size _) hbelw.size _)⟩
      · have HI1 := Lib.hid hi1
        have HI2 := Lib.hid hi2
        have HR : Hid (kindW x v = x.width) := by show _ = _; rw [HKW.out, hi1, hi2]; rfl
        clear hi1 hi2
        go_wp2_with (first | rw [← HW2.out] | (go_at_call 105; refine (laName_any _ _ hs).mono ?_; rintro e w' ⟨rfl, rfl⟩; rw [HNB.out]) | (go_at_call 49; refine (laFind_any _ _ _ _ _ _ _ HL2.out (Nat.le_refl _)).mono ?_; rintro e w5 ⟨rfl, hb5⟩; obtain ⟨N1, N2, N4, N5, N6, F1, F2, F4, F5, F6⟩ := HNEW.out.below hb5 hszn; obtain ⟨E0, E1, E2, E3, E4, E5, E6⟩ := HBX.out.below (hbel2.trans (hb5.mono hbel2.size)) hsz0) | (go_at_call 75; refine (laParts_any _ _).mono ?_; rintro e w' ⟨rfl, rfl⟩; rw [HPL.out]) | (go_at_call 95; refine (l1In_any _ _ _ _).mono ?_; rintro e w' ⟨rfl, rfl⟩; first | rw [HI1.out] | rw [HI2.out]))
        go_ret
        exact ⟨ret_int (by rw [HOK.out, HR.out]), (Below.setCell (Below.setCell (hbelw2.trans (hb5.mono hbelw2.size)) hbelw.size _) hbelw.size _)⟩
end Go.Proofs.YtdlddkgmjpmenaaGreatDoor
