/-
  The language: the program's widths of all lines.
-/
import Derived.Test.YtdlddkgmjpmenaaGreatDoorLi3
namespace Go.Proofs.YtdlddkgmjpmenaaGreatDoor
open Go.RowKit
set_option linter.unusedVariables false
set_option linter.unusedSimpArgs false

theorem stepW_miss {done : List Ln} {x : Ln} {s : St} (h : partsBy (lineF done) s.1 x.parts = none) : stepW done x s = none := by unfold stepW; rw [h]
theorem stepW_zero {done : List Ln} {x : Ln} {s : St} {v : List Int} (h : partsBy (lineF done) s.1 x.parts = some v) (h0 : lnWidth x v = 0) : stepW done x s = none := by
  unfold stepW; rw [h]; simp only []; rw [if_pos (.inl h0)]
theorem stepW_twice {done : List Ln} {x : Ln} {s : St} {v : List Int} (h : partsBy (lineF done) s.1 x.parts = some v) (h0 : x.name ≠ ByteArray.empty) (h1 : 0 ≤ lineF done x.name) : stepW done x s = none := by
  unfold stepW; rw [h]; simp only []; rw [if_pos (.inr ⟨h0, h1⟩)]
theorem stepW_some {done : List Ln} {x : Ln} {ws : List Int} {b0 b1 o : Int} {v : List Int} (h : partsBy (lineF done) ws x.parts = some v) (hz : lnWidth x v ≠ 0) (h0 : x.name ≠ ByteArray.empty → ¬ 0 ≤ lineF done x.name) :
    stepW done x (ws, b0, b1, o) = some (ws ++ [lnWidth x v], (if x.kind = 1 ∧ x.party = 0 then b0 + lnWidth x v else b0), (if x.kind = 1 ∧ x.party = 1 then b1 + lnWidth x v else b1), (if x.kind = 6 then o + 1 else o)) := by
  unfold stepW; rw [h]; simp only []; rw [if_neg (by rintro (g | ⟨g1, g2⟩); exact hz g; exact h0 g1 g2)]
set_option maxRecDepth 100000 in
set_option maxHeartbeats 8000000 in
theorem widths_any (w : World) (ao : Option Addr) (n c : Nat) (ls : List Ln) (h : Lns w w.heap.size ao n ls) (hs : okS ls) (hnc : n ≤ c) :
    Calls Tryz.prog 46 #[.slice ao n c] w (RetIB (widthsF ls) w) := by
  have hn := h.le
  have hl := Lib.hid h.1
  have HSZ := Lib.hid hs
  clear hs
  by_cases h30 : n ≤ 30
  rotate_left
  · have h30' : (n : Int) > 30 := by omega
    have HF : Hid (widthsF ls = ([], false)) := by show _ = _; unfold widthsF; rw [if_pos (by rw [hl.out]; omega)]
    go_enter Tryz.func46, Tryz.ntmps46
    go_wp2_with fail
    go_ret2
    rw [HF.out]
    exact ⟨_, _, _, rfl, OwnI.nil _ _ _, Below.refl _ _⟩
  have h30' : ¬ (n : Int) > 30 := by omega
  obtain ⟨Wa, hWa⟩ : ∃ Wa, Wa = w.alloc (.cells #[] 3) := ⟨_, rfl⟩
  have hba : Below w.heap.size w Wa := by rw [hWa]; exact (Below.refl _ _).alloc (Nat.le_refl _) _
  have hsza : w.heap.size < Wa.heap.size := by rw [hWa]; simp
  have HWa := Lib.hid hWa
  clear hWa
  obtain ⟨W1, hW1⟩ : ∃ W1, W1 = Wa.alloc (.cells #[.int .i64 0, .int .i64 0] 83) := ⟨_, rfl⟩
  have hb1 : Below w.heap.size w W1 := by rw [hW1]; exact hba.alloc (by omega) _
  have hbits1 : Bits2 W1 Wa.heap.size 0 0 := by rw [hW1]; exact Bits2.new _ _
  have hsz1 : Wa.heap.size < W1.heap.size := by rw [hW1]; simp
  have HW1 := Lib.hid hW1
  clear hW1
  obtain ⟨c0, c1, f0, f1⟩ := hbits1
  go_enter Tryz.func46, Tryz.ntmps46
  go_wp2_with (rw [← HWa.out])
  rw [← HW1.out]
  have hbits1 : Bits2 W1 Wa.heap.size 0 0 := ⟨c0, c1, f0, f1⟩
  clear c0 c1 f0 f1
  go_loopw [4, 6, 21] (fun out outs i wr => ∃ (k : Nat) (co : Option Addr) (cap : Nat) (ws : List Int) (b0 b1 o : Int), k ≤ n ∧ i = .int .i64 k ∧ out = .slice co k cap ∧ outs = .int .i64 o ∧ OwnI W1.heap.size wr co k cap ws ∧ Hid (runW (ls.take k) = some (ws, b0, b1, o)) ∧ Bits2 wr Wa.heap.size b0 b1 ∧ (0 ≤ b0 ∧ b0 ≤ 10 * k ∧ 0 ≤ b1 ∧ b1 ≤ 10 * k ∧ 0 ≤ o ∧ o ≤ k) ∧ Below w.heap.size w wr ∧ W1.heap.size ≤ wr.heap.size) (fun _ _ i _ => n - (intOf i).toNat)
  case atStart => exact ⟨0, _, _, [], 0, 0, 0, Nat.zero_le _, rfl, rfl, rfl, OwnI.nil _ _ _, by show _ = _; simp [runW, widthsFrom], hbits1, by omega, hb1, Nat.le_refl _⟩
  case round =>
    obtain ⟨k, co, cap, ws, b0, b1, o, hk, rfl, rfl, rfl, hout, HR, hbits, ⟨hb0l, hb0u, hb1l, hb1u, hol, hou⟩, hbel, hszr⟩ := hrel
    by_cases hlt : k < n
    · obtain ⟨b, oo, l, pa, pc, rfl, hb, hx, hps, g0, g1, g2, g3, g4, g5, g6⟩ := (h.below hbel (Nat.le_refl _)).at hlt
      have HSL := Lib.hid (okS_at HSZ.out hx)
      have HSTEP := Lib.hid (runW_step hx HR.out)
      have HSTOP := Lib.hid (fun hq => runW_stop hx HR.out hq)
      have HOW := Lib.hid ((runW_ok HR.out).2.1.2.1)
      have HX := Lib.hid hx
      clear hx
      obtain ⟨W2, hW2⟩ : ∃ W2, W2 = wr.alloc (lineObj l pa pc) := ⟨_, rfl⟩
      have hal : Below wr.heap.size wr W2 := by rw [hW2]; exact (Below.refl _ _).alloc (Nat.le_refl _) _
      have hbx : BoxL W2 wr.heap.size l pa pc := by rw [hW2]; exact boxL_new _ _ _ _
      have hsz2 : wr.heap.size < W2.heap.size := by rw [hW2]; simp
      have HW2 := Lib.hid hW2
      clear hW2
      have hbel2 := hbel.trans (hal.mono hbel.size)
      have hout2 := hout.below hal (Nat.le_refl _)
      have hbits2 := hbits.below hal (by omega)
      have hps2 := (hps.below hal hbel.size).up hbel2.size
      have hpl := HSL.out.2.2
      have hnm := HSL.out.1
      unfold lineObj at HW2
      obtain ⟨W3, hW3⟩ : ∃ W3, W3 = W2.alloc (.cells #[] 3) := ⟨_, rfl⟩
      have hal3 : Below W2.heap.size W2 W3 := by rw [hW3]; exact (Below.refl _ _).alloc (Nat.le_refl _) _
      have HW3 := Lib.hid hW3
      clear hW3
      have hbx3 := hbx.below hal3 hsz2
      have HBX2 := Lib.hid hbx
      clear hbx
      obtain ⟨e0, e1, e2, e3, e4, e5, e6⟩ := hbx3
      have hkc : (k : Int) ≤ (c : Int) := by omega
      have hk0 : (0 : Int) ≤ (k : Int) := by omega
      have hkc2 : k ≤ c := by omega
      have HLk := Lib.hid (((h.take hk).below hbel2 (Nat.le_refl _)).up hbel2.size)
      go_wp2_with (first | rw [← HW2.out] | rw [← HW3.out])
      clear e0 e1 e2 e3 e4 e5 e6 g0 g1 g2 g3 g4 g5 g6
      go_loopw [9, 30] (fun parts j wq => ∃ (m : Nat) (po : Option Addr) (pcap : Nat) (v : List Int), m ≤ l.parts.length ∧ j = .int .i64 m ∧ parts = .slice po m pcap ∧ OwnI W2.heap.size wq po m pcap v ∧ Hid (partsBy (lineF (ls.take k)) ws (l.parts.take m) = some v) ∧ Below W2.heap.size W2 wq) (fun _ j _ => l.parts.length - (intOf j).toNat)
      case atStart => exact ⟨0, _, _, [], Nat.zero_le _, rfl, rfl, OwnI.nil _ _ _, by show _ = _; simp [partsBy], hal3⟩
      case round =>
        obtain ⟨m, po, pcap, v, hm, rfl, rfl, hpar, HV, hbelq⟩ := hrel
        have hbelw := hbel2.trans (hbelq.mono hbel2.size)
        by_cases hltm : m < l.parts.length
        · obtain ⟨b9, o9, p, rfl, hbb9, hxp, q9⟩ := (hps2.below hbelq (Nat.le_refl _)).at hltm
          have HXP := Lib.hid hxp
          clear hxp
          have hL := (HLk.out.below hbelq (Nat.le_refl _)).up hbelq.size
          go_wp2_with fail
          refine (lineOf_any _ _ _ _ _ _ _ hL (Nat.le_refl _)).mono ?_
          rintro e w5 ⟨rfl, hb5⟩
          have hbelq5 := hbelq.trans (hb5.mono hbelq.size)
          have hbelw5 := hbelw.trans (hb5.mono hbelw.size)
          have hpar5 := hpar.below hb5 (Nat.le_refl _)
          have hr := lineF_range (ls.take k) p
          by_cases hneg : lineF (ls.take k) p < 0
          · have HF : Hid (widthsF ls = ([], false)) := HSTOP.out (stepW_miss (partsBy_miss HXP.out hneg))
            obtain ⟨f, hf⟩ : ∃ f, f = lineF (ls.take k) p := ⟨_, rfl⟩
            rw [← hf] at hneg ⊢
            clear hf hr
            go_wp2_with fail
            go_ret2
            rw [HF.out]
            exact ⟨_, _, _, rfl, OwnI.nil _ _ _, hbelw5⟩
          · have HSN := Lib.hid (partsBy_snoc HXP.out HV.out hneg)
            obtain ⟨f, hf⟩ := Int.eq_ofNat_of_zero_le (show 0 ≤ lineF (ls.take k) p by omega)
            rw [hf] at hneg hr HSN ⊢
            have hfk : f < k := by have h1 := hl.out; have h2 : (ls.take k).length ≤ k := by simp; omega
                                   omega
            have hneg' : decide ((f : Int) < 0) = false := by simp
            obtain ⟨b2, o2, y, rfl, hbb2, hy, q2⟩ := ((hout2.below hbelq5 (Nat.le_refl _)).ints).at hfk
            rw [atN_get hy] at HSN
            clear hf hr hy hneg
            go_wp2_with (at_builtin; refine wpList_append_i rfl _ _ rfl W2.heap.size _ _ _ _ _ rfl rfl hpar5 (by omega) hbelq5.size ?_; intro ao' cap' w4 hown4 hg4)
            have hbr4 := below_append hbelq5 hpar5.2.2 hg4 hbelq5.size
            go_roundw
            case rel => exact ⟨m + 1, ao', cap', _, by omega, by go_num, rfl, hown4, HSN.out, hbr4⟩
            case measure => simp [intOf] <;> omega
        · obtain rfl : m = l.parts.length := by omega
          rw [List.take_of_length_le (Nat.le_refl _)] at HV
          have hpz := partsBy_ok HOW.out (fun p => by have := lineF_range (ls.take k) p; have h2 := hout.1; have h3 := hl.out; simp at this; omega) HV.out
          have HVW := Lib.hid hpz.1
          clear hpz
          have hbxq := HBX2.out.below hbelq hsz2
          have hparI := hpar.ints
          have hszq := hbelq.size
          obtain ⟨e0, e1, e2, e3, e4, e5, e6⟩ := hbxq
          go_wp2_with fail
          refine (lineWidth_any _ l pa po _ _ _ v hparI (okW_okZ HVW.out) hnm).mono ?_
          rintro e w5 ⟨rfl, hb5⟩
          have hbelq5 := hbelq.trans (hb5.mono hbelq.size)
          have hbelw5 := hbelw.trans (hb5.mono hbelw.size)
          have hout5 := hout2.below hbelq5 (Nat.le_refl _)
          have hbits5 := hbits2.below hbelq5 (by omega)
          have hszq5 := hbelq5.size
          clear e0 e1 e2 e3 e4 e5 e6
          obtain ⟨e0, e1, e2, e3, e4, e5, e6⟩ := HBX2.out.below hbelq5 hsz2
          by_cases hz0 : lnWidth l v = 0
          · have HF : Hid (widthsF ls = ([], false)) := HSTOP.out (stepW_zero HV.out hz0)
            rw [hz0]
            clear hz0
            go_wp2_with fail
            go_quiet (fail)
            go_wp2_with fail
            go_ret2
            rw [HF.out]
            exact ⟨_, _, _, rfl, OwnI.nil _ _ _, bdrewN hbelw5 _⟩
          have hrange := lnWidth_range HVW.out hz0
          have HPT := Lib.hid (fun hk => lnWidth_party (x := l) (v := v) hz0 hk)
          have HSX := Lib.hid (lnWidth_six (x := l) (v := v) hz0)
          have HNZ := Lib.hid hz0
          have HVV := Lib.hid HV.out
          obtain ⟨z, hz⟩ : ∃ z, z = lnWidth l v := ⟨_, rfl⟩
          have HZ := Lib.hid hz
          rw [← hz] at hrange ⊢
          have zb : (z == 0) = false := by simp; omega
          clear hz hz0
          by_cases hnm0 : l.name = ByteArray.empty
          · have HR2 : Hid (runW (ls.take (k + 1)) = some (ws ++ [z], b0, b1, o + 1)) := by
              have hk6 := HSX.out.2 hnm0
              show _ = _
              rw [HSTEP.out, stepW_some HV.out HNZ.out (fun h => (h hnm0).elim), HZ.out]
              simp [hk6]
            have a1 : (l.kind == 1) = false := by have := HSX.out.2 hnm0; simp; omega
            have a6 : (l.kind == 6) = true := by have := HSX.out.2 hnm0; simp [this]
            have zname : (l.name.toList == []) = true := by rw [hnm0, empty_list]; rfl
            have uname : (([] : List UInt8) == l.name.toList) = true := by rw [hnm0, empty_list]; rfl
            clear hnm0
            go_wp2_with fail
            go_quiet (fail)
            have hbeld := bdrewN hbelw5 nq
            have houtd : OwnI W1.heap.size (w5.drewN nq) co k cap ws := hout5
            have hbitsd : Bits2 (w5.drewN nq) Wa.heap.size b0 b1 := hbits5
            have hszd : W2.heap.size ≤ (w5.drewN nq).heap.size := hszq5
            have e0d := (show (w5.drewN nq).cell? ⟨_, 0, none⟩ = some (.int .i64 l.kind) from e0)
            clear e0 e1 e2 e3 e4 e5 e6
            generalize w5.drewN nq = wd at hbeld houtd hbitsd hszd e0d ⊢
            go_wp2_with (at_builtin; refine wpList_append_i rfl _ _ rfl W1.heap.size _ _ _ _ _ rfl (by first | rfl | (simp; rfl)) houtd (by omega) (by omega) ?_; intro ao' cap' w8 hown8 hg8)
            have hbe8 := hbeld.grown hg8 (Nat.le_trans (by omega) hbeld.size) (fun q hq => by have := houtd.rowLt q hq; omega)
            have hbi8 := hbitsd.grown hg8 (by have := hszd; omega) (fun e => by have := houtd.rowLt _ e.symm; omega)
            have hsz8 := hg8.size
            go_roundw
            case rel => exact ⟨k + 1, ao', cap', _, b0, b1, o + 1, by omega, by go_num, rfl, rfl, hown8, HR2.out, hbi8, by omega, hbe8, by have := hszd; omega⟩
            case measure => simp [intOf] <;> omega
          have zname : (l.name.toList == []) = false := by rw [← empty_list]; exact seq_no hnm0
          have uname : (([] : List UInt8) == l.name.toList) = false := by rw [← empty_list]; exact seq_no (fun e => hnm0 e.symm)
          have HNM := Lib.hid hnm0
          clear hnm0
          have a6 : (l.kind == 6) = false := by simp; exact fun h => HNM.out (HSX.out.1 h)
          go_wp2_with fail
          go_still_tail 12, (by kernel_rfl)
          change wpList _ _ _ _ _ w5.drew
          have hbeld := hbelq5.drew
          have hbelwd := hbelw5.drew
          have hszd : W2.heap.size ≤ w5.drew.heap.size := hbeld.size
          generalize w5.drew = wd at *
          have hLd := (HLk.out.below hbeld (Nat.le_refl _)).up hbeld.size
          go_wp2_with fail
          refine (lineOf_any _ _ _ _ _ _ _ hLd (Nat.le_refl _)).mono ?_
          rintro e w6 ⟨rfl, hb6⟩
          have hbel6 := hbeld.trans (hb6.mono hbeld.size)
          have hbelw6 := hbelwd.trans (hb6.mono hbelwd.size)
          by_cases hge : 0 ≤ lineF (ls.take k) l.name
          · have HF : Hid (widthsF ls = ([], false)) := HSTOP.out (stepW_twice HV.out HNM.out hge)
            have hge' : decide (lineF (ls.take k) l.name ≥ 0) = true := by simp [hge]
            go_wp2_with fail
            go_ret2
            rw [HF.out]
            exact ⟨_, _, _, rfl, OwnI.nil _ _ _, hbelw6⟩
          have HGE := Lib.hid hge
          have hge' : ¬ lineF (ls.take k) l.name ≥ 0 := hge
          have hge2 : decide (lineF (ls.take k) l.name ≥ 0) = false := by simp; omega
          clear hge
          have hout6 := hout2.below hbel6 (Nat.le_refl _)
          have hbits6 := hbits2.below hbel6 (by omega)
          have hsz6 := hbel6.size
          clear e0 e1 e2 e3 e4 e5 e6
          obtain ⟨e0, e1, e2, e3, e4, e5, e6⟩ := HBX2.out.below hbel6 hsz2
          by_cases hk1 : l.kind = 1
          rotate_left
          · have HR2 : Hid (runW (ls.take (k + 1)) = some (ws ++ [z], b0, b1, o)) := by
              have hk6 : ¬ l.kind = 6 := by simpa using a6
              show _ = _
              rw [HSTEP.out, stepW_some HV.out HNZ.out (fun _ => HGE.out), HZ.out]
              simp [hk1, hk6]
            have a1 : (l.kind == 1) = false := by simp [hk1]
            clear hk1
            go_wp2_with (at_builtin; refine wpList_append_i rfl _ _ rfl W1.heap.size _ _ _ _ _ rfl (by first | rfl | (simp; rfl)) hout6 (by omega) (by omega) ?_; intro ao' cap' w8 hown8 hg8)
            have hbe8 := hbelw6.grown hg8 (Nat.le_trans (by omega) hbelw6.size) (fun q hq => by have := hout6.rowLt q hq; omega)
            have hbi8 := hbits6.grown hg8 (by have := hsz6; omega) (fun e => by have := hout6.rowLt _ e.symm; omega)
            have hsz8 := hg8.size
            go_roundw
            case rel => exact ⟨k + 1, ao', cap', _, b0, b1, o, by omega, by go_num, rfl, rfl, hown8, HR2.out, hbi8, by omega, hbe8, by have := hsz6; omega⟩
            case measure => simp [intOf] <;> omega
          have a1 : (l.kind == 1) = true := by simp [hk1]
          rcases HPT.out hk1 with hp | hp
          · have HR2 : Hid (runW (ls.take (k + 1)) = some (ws ++ [z], b0 + z, b1, o)) := by
              show _ = _
              rw [HSTEP.out, stepW_some HV.out HNZ.out (fun _ => HGE.out), HZ.out]
              simp [hk1, hp]
            rw [hp] at e4
            clear hk1 hp
            obtain ⟨W7, hW7⟩ : ∃ W7, W7 = w6.setCell ⟨Wa.heap.size, 0, none⟩ (.int .i64 (b0 + z)) := ⟨_, rfl⟩
            have hbits7 : Bits2 W7 Wa.heap.size (b0 + z) b1 := by rw [hW7]; exact hbits6.set0 _
            have hout7 : OwnI W1.heap.size W7 co k cap ws := by rw [hW7]; exact hout6.other (grown_setCell _ _ _) (fun q l h1 h2 => by have := hout6.rowLt q h1; simp at h2; omega)
            have hbe7 : Below w.heap.size w W7 := by rw [hW7]; exact below_set hbelw6 _ _ (by show w.heap.size ≤ Wa.heap.size; omega)
            have hsz7 : w6.heap.size ≤ W7.heap.size := by rw [hW7]; simp
            have HW7 := Lib.hid hW7
            clear hW7
            obtain ⟨c0, c1, f0, f1⟩ := hbits6
            go_wp2_with (first | rw [← HW7.out] | (at_builtin; refine wpList_append_i rfl _ _ rfl W1.heap.size _ _ _ _ _ rfl (by first | rfl | (simp; rfl)) hout7 (by omega) (by omega) ?_; intro ao' cap' w8 hown8 hg8))
            clear c0 c1 f0 f1
            have hbe8 := hbe7.grown hg8 (Nat.le_trans (by omega) hbe7.size) (fun q hq => by have := hout7.rowLt q hq; omega)
            have hbi8 := hbits7.grown hg8 (by have := hsz7; omega) (fun e => by have := hout7.rowLt _ e.symm; omega)
            have hsz8 := hg8.size
            go_roundw
            case rel => exact ⟨k + 1, ao', cap', _, b0 + z, b1, o, by omega, by go_num, rfl, rfl, hown8, HR2.out, hbi8, by omega, hbe8, by have := hsz7; omega⟩
            case measure => simp [intOf] <;> omega
          · have HR2 : Hid (runW (ls.take (k + 1)) = some (ws ++ [z], b0, b1 + z, o)) := by
              show _ = _
              rw [HSTEP.out, stepW_some HV.out HNZ.out (fun _ => HGE.out), HZ.out]
              simp [hk1, hp]
            rw [hp] at e4
            clear hk1 hp
            obtain ⟨W7, hW7⟩ : ∃ W7, W7 = w6.setCell ⟨Wa.heap.size, 1, none⟩ (.int .i64 (b1 + z)) := ⟨_, rfl⟩
            have hbits7 : Bits2 W7 Wa.heap.size b0 (b1 + z) := by rw [hW7]; exact hbits6.set1 _
            have hout7 : OwnI W1.heap.size W7 co k cap ws := by rw [hW7]; exact hout6.other (grown_setCell _ _ _) (fun q l h1 h2 => by have := hout6.rowLt q h1; simp at h2; omega)
            have hbe7 : Below w.heap.size w W7 := by rw [hW7]; exact below_set hbelw6 _ _ (by show w.heap.size ≤ Wa.heap.size; omega)
            have hsz7 : w6.heap.size ≤ W7.heap.size := by rw [hW7]; simp
            have HW7 := Lib.hid hW7
            clear hW7
            obtain ⟨c0, c1, f0, f1⟩ := hbits6
            go_wp2_with (first | rw [← HW7.out] | (at_builtin; refine wpList_append_i rfl _ _ rfl W1.heap.size _ _ _ _ _ rfl (by first | rfl | (simp; rfl)) hout7 (by omega) (by omega) ?_; intro ao' cap' w8 hown8 hg8))
            clear c0 c1 f0 f1
            have hbe8 := hbe7.grown hg8 (Nat.le_trans (by omega) hbe7.size) (fun q hq => by have := hout7.rowLt q hq; omega)
            have hbi8 := hbits7.grown hg8 (by have := hsz7; omega) (fun e => by have := hout7.rowLt _ e.symm; omega)
            have hsz8 := hg8.size
            go_roundw
            case rel => exact ⟨k + 1, ao', cap', _, b0, b1 + z, o, by omega, by go_num, rfl, rfl, hown8, HR2.out, hbi8, by omega, hbe8, by have := hsz7; omega⟩
            case measure => simp [intOf] <;> omega
    · obtain rfl : k = n := by omega
      rw [List.take_of_length_le (by rw [hl.out]; exact Nat.le_refl _)] at HR
      have HE := Lib.hid (runW_end HR.out (by rw [hl.out]; omega))
      obtain ⟨c0, c1, f0, f1⟩ := hbits
      by_cases q0 : b0 ≤ 20
      rotate_left
      · have HF : Hid (widthsF ls = (ws, false)) := by show _ = _; rw [HE.out]; simp [q0]
        have q0' : decide (b0 ≤ 20) = false := by simp [q0]
        go_wp2_with fail
        go_ret2
        rw [HF.out]
        exact ⟨_, _, _, rfl, hout.up (by omega), hbel⟩
      have q0' : decide (b0 ≤ 20) = true := by simp [q0]
      by_cases q1 : b1 ≤ 20
      rotate_left
      · have HF : Hid (widthsF ls = (ws, false)) := by show _ = _; rw [HE.out]; simp [q1]
        have q1' : decide (b1 ≤ 20) = false := by simp [q1]
        go_wp2_with fail
        go_ret2
        rw [HF.out]
        exact ⟨_, _, _, rfl, hout.up (by omega), hbel⟩
      have q1' : decide (b1 ≤ 20) = true := by simp [q1]
      by_cases q2 : o ≤ 10
      rotate_left
      · have HF : Hid (widthsF ls = (ws, false)) := by show _ = _; rw [HE.out]; simp [q2]
        have q2' : decide (o ≤ 10) = false := by simp [q2]
        go_wp2_with fail
        go_ret2
        rw [HF.out]
        exact ⟨_, _, _, rfl, hout.up (by omega), hbel⟩
      · have HF : Hid (widthsF ls = (ws, true)) := by show _ = _; rw [HE.out]; simp [q0, q1, q2]
        have q2' : decide (o ≤ 10) = true := by simp [q2]
        go_wp2_with fail
        go_ret2
        rw [HF.out]
        exact ⟨_, _, _, rfl, hout.up (by omega), hbel⟩
theorem impl_IsProgram_any (w : World) (ao : Option Addr) (n c : Nat) (ls : List Ln) (h : Lns w w.heap.size ao n ls) (hs : okS ls) (hnc : n ≤ c) :
    Calls Tryz.prog 21 #[.slice ao n c] w (RetB (laGoodF ls) w) := by
  have HF := Lib.hid (widths_good ls).1
  go_enter Tryz.func21, Tryz.ntmps21
  go_wp2_with fail
  refine (widths_any _ _ _ _ _ h hs hnc).mono ?_
  rintro e w1 ⟨a1, n1, c1, rfl, ho1, hb1⟩
  go_wp2_with fail
  go_ret
  exact ⟨ret_bool HF.out, hb1⟩
end Go.Proofs.YtdlddkgmjpmenaaGreatDoor
