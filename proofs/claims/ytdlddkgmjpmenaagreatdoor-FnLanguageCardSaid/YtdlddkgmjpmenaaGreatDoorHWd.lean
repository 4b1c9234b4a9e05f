/-
  The language: the program's width of a line, all kinds; the state of its walk over the lines.
-/
import Derived.Test.YtdlddkgmjpmenaaGreatDoorQLv0
import Derived.Test.YtdlddkgmjpmenaaGreatDoorQLv1
import Derived.Test.YtdlddkgmjpmenaaGreatDoorQLv2
import Derived.Test.YtdlddkgmjpmenaaGreatDoorQLv3
import Derived.Test.YtdlddkgmjpmenaaGreatDoorQLv4
import Derived.Test.YtdlddkgmjpmenaaGreatDoorQLv5
import Derived.Test.YtdlddkgmjpmenaaGreatDoorQLv6
import Derived.Test.YtdlddkgmjpmenaaGreatDoorHLn
import Derived.Test.YtdlddkgmjpmenaaGreatDoorHLa
import Derived.Test.YtdlddkgmjpmenaaGreatDoorHLc
import Derived.Deep.AppendLies
namespace Go.Proofs.YtdlddkgmjpmenaaGreatDoor
open Go.RowKit
set_option linter.unusedVariables false
set_option linter.unusedSimpArgs false

theorem lineWidth_any (w : World) (x : Ln) (pa bo : Option Addr) (n c pc : Nat) (v : List Int) (hw : Ints w w.heap.size bo n v) (hz : okZ v) (hs : x.name.size ≤ 1048576) :
    Calls Tryz.prog 78 #[lineV x pa pc, .slice bo n c] w (RetN (lnWidth x v) w) := by
  by_cases k1 : x.kind = 1
  · exact lineWidth_any1 w x pa bo n c pc v hw hz hs k1
  by_cases k2 : x.kind = 2
  · exact lineWidth_any2 w x pa bo n c pc v hw hz hs k2
  by_cases k3 : x.kind = 3
  · exact lineWidth_any3 w x pa bo n c pc v hw hz hs k3
  by_cases k4 : x.kind = 4
  · exact lineWidth_any4 w x pa bo n c pc v hw hz hs k4
  by_cases k5 : x.kind = 5
  · exact lineWidth_any5 w x pa bo n c pc v hw hz hs k5
  by_cases k6 : x.kind = 6
  · exact lineWidth_any6 w x pa bo n c pc v hw hz hs k6
  exact lineWidth_any0 w x pa bo n c pc v hw hz hs k1 k2 k3 k4 k5 k6
theorem okW_okZ {ws : List Int} (h : okW ws) : okZ ws := fun i x hx => by have := h i x hx; omega
theorem lnWidth_range {x : Ln} {v : List Int} (hv : okW v) (h : lnWidth x v ≠ 0) : 1 ≤ lnWidth x v ∧ lnWidth x v ≤ 10 := by
  obtain ⟨h1, h2, h3⟩ := lnWidth_named h
  rw [kind_agree h1 h2 h3] at h ⊢
  rcases kindW_ok (x := x) hv h3 with h4 | h4
  · exact (h h4).elim
  · exact h4
theorem lnWidth_party {x : Ln} {v : List Int} (h : lnWidth x v ≠ 0) (hk : x.kind = 1) : x.party = 0 ∨ x.party = 1 := by
  unfold lnWidth at h
  split at h
  · exact (h rfl).elim
  · next g =>
    cases hp : inB x.party 0 1
    · exact (g ⟨hk, by rw [hp]; rfl⟩).elim
    · have := inB_iff.1 hp; omega
theorem lnWidth_six {x : Ln} {v : List Int} (h : lnWidth x v ≠ 0) : (x.kind = 6 ↔ x.name = ByteArray.empty) := by
  exact (lnWidth_named h).1.1
/-- The two counts of bits in their box. -/
def Bits2 (w : World) (g : Nat) (b0 b1 : Int) : Prop := w.cell? ⟨g, 0, none⟩ = some (.int .i64 b0) ∧ w.cell? ⟨g, 1, none⟩ = some (.int .i64 b1) ∧ w.frozen? ⟨g, 0, none⟩ = false ∧ w.frozen? ⟨g, 1, none⟩ = false
theorem Bits2.below {w w' : World} {g C : Nat} {b0 b1 : Int} (h : Bits2 w g b0 b1) (hb : Below C w w') (hg : g < C) : Bits2 w' g b0 b1 :=
  ⟨(hb.cell (p := ⟨g, 0, none⟩) hg).trans h.1, (hb.cell (p := ⟨g, 1, none⟩) hg).trans h.2.1, (hb.frozen (p := ⟨g, 0, none⟩) hg).trans h.2.2.1, (hb.frozen (p := ⟨g, 1, none⟩) hg).trans h.2.2.2⟩
theorem Bits2.new (w : World) (t : TypeId) : Bits2 (w.alloc (.cells #[.int .i64 0, .int .i64 0] t)) w.heap.size 0 0 := by
  have h := heap_alloc_new w (.cells #[.int .i64 0, .int .i64 0] t)
  have c := fun j => cell_of_row (w.alloc (.cells #[.int .i64 0, .int .i64 0] t)) w.heap.size j _ _ (0, 0) h
  have f := fun j => frozen_of_row (w.alloc (.cells #[.int .i64 0, .int .i64 0] t)) w.heap.size j _ _ h
  refine ⟨?_, ?_, f 0, f 1⟩ <;> rw [c] <;> rfl
theorem Bits2.set0 {w : World} {g : Nat} {b0 b1 : Int} (h : Bits2 w g b0 b1) (v : Int) : Bits2 (w.setCell ⟨g, 0, none⟩ (.int .i64 v)) g v b1 :=
  ⟨World.cell?_setCell_same _ _ _ h.1, (World.cell?_setCell_other _ _ _ _ (by simp)).trans h.2.1, (World.frozen?_setCell _ _ _ _).trans h.2.2.1, (World.frozen?_setCell _ _ _ _).trans h.2.2.2⟩
theorem Bits2.set1 {w : World} {g : Nat} {b0 b1 : Int} (h : Bits2 w g b0 b1) (v : Int) : Bits2 (w.setCell ⟨g, 1, none⟩ (.int .i64 v)) g b0 v :=
  ⟨(World.cell?_setCell_other _ _ _ _ (by simp)).trans h.1, World.cell?_setCell_same _ _ _ h.2.1, (World.frozen?_setCell _ _ _ _).trans h.2.2.1, (World.frozen?_setCell _ _ _ _).trans h.2.2.2⟩
theorem grown_setCell (w : World) (a : Addr) (u : Value) : w.grownBy (w.setCell a u) (some a.block) :=
  ⟨rfl, rfl, rfl, by simp, fun k _ hk => heap_setCell_other w a k u (fun e => hk (by rw [e]))⟩
theorem Bits2.grown {w w' : World} {g : Nat} {b0 b1 : Int} {row : Option Nat} (h : Bits2 w g b0 b1) (hg : w.grownBy w' row) (hlt : g < w.heap.size) (hne : some g ≠ row) : Bits2 w' g b0 b1 :=
  ⟨(hg.cell_far ⟨g, 0, none⟩ hlt hne).trans h.1, (hg.cell_far ⟨g, 1, none⟩ hlt hne).trans h.2.1, (hg.frozen_far ⟨g, 0, none⟩ hlt hne).trans h.2.2.1, (hg.frozen_far ⟨g, 1, none⟩ hlt hne).trans h.2.2.2⟩
end Go.Proofs.YtdlddkgmjpmenaaGreatDoor
/-
  The language: the program's widths of all lines.
-/
namespace Go.Proofs.YtdlddkgmjpmenaaGreatDoor
open Go.RowKit
set_option linter.unusedVariables false
set_option linter.unusedSimpArgs false

theorem stepW_miss {done : List Ln} {x : Ln} {s : St} (h : partsBy (lineF done) s.1 x.parts = none) : stepW done x s = none := by unfold stepW; rw [h]
theorem stepW_zero {done : List Ln} {x : Ln} {s : St} {v : List Int} (h : partsBy (lineF done) s.1 x.parts = some v) (h0 : lnWidth x v = 0) : stepW done x s = none := by
  unfold stepW; rw [h]; simp only []; rw [if_pos (.inl h0)]
theorem stepW_twice {done : List Ln} {x : Ln} {s : St} {v : List Int} (h : partsBy (lineF done) s.1 x.parts = some v) (h0 : x.name ≠ ByteArray.empty) (h1 : 0 ≤ lineF done x.name) : stepW done x s = none := by
  unfold stepW; rw [h]; simp only []; rw [if_pos (.inr ⟨h0, h1⟩)]
theorem stepW_some {done : List Ln} {x : Ln} {ws : List Int} {b0 b1 o : Int} {v : List Int} (h : partsBy (lineF done) ws x.parts = some v) (hz : lnWidth x v ≠ 0) (h0 : x.name ≠ ByteArray.empty → ¬ 0 ≤ lineF done x.name) :
    stepW done x (ws, b0, b1, o) = some (ws ++ [lnWidth x v], (if x.kind = 1 ∧ x.party = 0 then b0 + lnWidth x v else b0), (if x.kind = 1 ∧ x.party = 1 then b1 + lnWidth x v else b1), (if x.kind = 6 then o + 1 else o)) := by
  unfold stepW; rw [h]; simp only []; rw [if_neg (by rintro (g | ⟨g1, g2⟩); exact hz g; exact h0 g1 g2)]
set_option maxRecDepth 100000 in
set_option maxHeartbeats 8000000 in
theorem widths_any (w : World) (ao : Option Addr) (n c : Nat) (ls : List Ln) (h : Lns w w.heap.size ao n ls) (hs : okS ls) (hnc : n ≤ c) :
    Calls Tryz.prog 46 #[.slice ao n c] w (RetIB (widthsF ls) w) := by
  have hn := h.le
  have hl := Lib.hid h.1
  have HSZ := Lib.hid hs
  clear hs
  by_cases h30 : n ≤ 30
  rotate_left
  · have h30' : (n : Int) > 30 := by omega
    have HF : Hid (widthsF ls = ([], false)) := by show _ = _; unfold widthsF; rw [if_pos (by rw [hl.out]; omega)]
    go_enter Tryz.func46, Tryz.ntmps46
    go_wp2_with fail
    go_ret2
    rw [HF.out]
    exact ⟨_, _, _, rfl, OwnI.nil _ _ _, Below.refl _ _⟩
  have h30' : ¬ (n : Int) > 30 := by omega
  obtain ⟨Wa, hWa⟩ : ∃ Wa, Wa = w.alloc (.cells #[] 3) := ⟨_, rfl⟩
  have hba : Below w.heap.size w Wa := by rw [hWa]; exact (Below.refl _ _).alloc (Nat.le_refl _) _
  have hsza : w.heap.size < Wa.heap.size := by rw [hWa]; simp
  have HWa := Lib.hid hWa
  clear hWa
  obtain ⟨W1, hW1⟩ : ∃ W1, W1 = Wa.alloc (.cells #[.int .i64 0, .int .i64 0] 83) := ⟨_, rfl⟩
  have hb1 : Below w.heap.size w W1 := by rw [hW1]; exact hba.alloc (by omega) _
  have hbits1 : Bits2 W1 Wa.heap.size 0 0 := by rw [hW1]; exact Bits2.new _ _
  have hsz1 : Wa.heap.size < W1.heap.size := by rw [hW1]; simp
  have HW1 := Lib.hid hW1
  clear hW1
  obtain ⟨c0, c1, f0, f1⟩ := hbits1
  go_enter Tryz.func46, Tryz.ntmps46
  go_wp2_with (rw [← HWa.out])
  rw [← HW1.out]
  have hbits1 : Bits2 W1 Wa.heap.size 0 0 := ⟨c0, c1, f0, f1⟩
  clear c0 c1 f0 f1
  go_loopw [4, 6, 21] (fun out outs i wr => ∃ (k : Nat) (co : Option Addr) (cap : Nat) (ws : List Int) (b0 b1 o : Int), k ≤ n ∧ i = .int .i64 k ∧ out = .slice co k cap ∧ outs = .int .i64 o ∧ OwnI W1.heap.size wr co k cap ws ∧ Hid (runW (ls.take k) = some (ws, b0, b1, o)) ∧ Bits2 wr Wa.heap.size b0 b1 ∧ (0 ≤ b0 ∧ b0 ≤ 10 * k ∧ 0 ≤ b1 ∧ b1 ≤ 10 * k ∧ 0 ≤ o ∧ o ≤ k) ∧ Below w.heap.size w wr ∧ W1.heap.size ≤ wr.heap.size) (fun _ _ i _ => n - (intOf i).toNat)
  case atStart => exact ⟨0, _, _, [], 0, 0, 0, Nat.zero_le _, rfl, rfl, rfl, OwnI.nil _ _ _, by show _ = _; simp [runW, widthsFrom], hbits1, by omega, hb1, Nat.le_refl _⟩
  case round =>
    obtain ⟨k, co, cap, ws, b0, b1, o, hk, rfl, rfl, rfl, hout, HR, hbits, ⟨hb0l, hb0u, hb1l, hb1u, hol, hou⟩, hbel, hszr⟩ := hrel
    by_cases hlt : k < n
    · obtain ⟨b, oo, l, pa, pc, rfl, hb, hx, hps, g0, g1, g2, g3, g4, g5, g6⟩ := (h.below hbel (Nat.le_refl _)).at hlt
      have HSL := Lib.hid (okS_at HSZ.out hx)
      have HSTEP := Lib.hid (runW_step hx HR.out)
      have HSTOP := Lib.hid (fun hq => runW_stop hx HR.out hq)
      have HOW := Lib.hid ((runW_ok HR.out).2.1.2.1)
      have HX := Lib.hid hx
      clear hx
      obtain ⟨W2, hW2⟩ : ∃ W2, W2 = wr.alloc (lineObj l pa pc) := ⟨_, rfl⟩
      have hal : Below wr.heap.size wr W2 := by rw [hW2]; exact (Below.refl _ _).alloc (Nat.le_refl _) _
      have hbx : BoxL W2 wr.heap.size l pa pc := by rw [hW2]; exact boxL_new _ _ _ _
      have hsz2 : wr.heap.size < W2.heap.size := by rw [hW2]; simp
      have HW2 := Lib.hid hW2
      clear hW2
      have hbel2 := hbel.trans (hal.mono hbel.size)
      have hout2 := hout.below hal (Nat.le_refl _)
      have hbits2 := hbits.below hal (by omega)
      have hps2 := (hps.below hal hbel.size).up hbel2.size
      have hpl := HSL.out.2.2
      have hnm := HSL.out.1
      unfold lineObj at HW2
      obtain ⟨W3, hW3⟩ : ∃ W3, W3 = W2.alloc (.cells #[] 3) := ⟨_, rfl⟩
      have hal3 : Below W2.heap.size W2 W3 := by rw [hW3]; exact (Below.refl _ _).alloc (Nat.le_refl _) _
      have HW3 := Lib.hid hW3
      clear hW3
      have hbx3 := hbx.below hal3 hsz2
      have HBX2 := Lib.hid hbx
      clear hbx
      obtain ⟨e0, e1, e2, e3, e4, e5, e6⟩ := hbx3
      have hkc : (k : Int) ≤ (c : Int) := by omega
      have hk0 : (0 : Int) ≤ (k : Int) := by omega
      have hkc2 : k ≤ c := by omega
      have HLk := Lib.hid (((h.take hk).below hbel2 (Nat.le_refl _)).up hbel2.size)
      go_wp2_with (first | rw [← HW2.out] | rw [← HW3.out])
      clear e0 e1 e2 e3 e4 e5 e6 g0 g1 g2 g3 g4 g5 g6
      go_loopw [9, 30] (fun parts j wq => ∃ (m : Nat) (po : Option Addr) (pcap : Nat) (v : List Int), m ≤ l.parts.length ∧ j = .int .i64 m ∧ parts = .slice po m pcap ∧ OwnI W2.heap.size wq po m pcap v ∧ Hid (partsBy (lineF (ls.take k)) ws (l.parts.take m) = some v) ∧ Below W2.heap.size W2 wq) (fun _ j _ => l.parts.length - (intOf j).toNat)
      case atStart => exact ⟨0, _, _, [], Nat.zero_le _, rfl, rfl, OwnI.nil _ _ _, by show _ = _; simp [partsBy], hal3⟩
      case round =>
        obtain ⟨m, po, pcap, v, hm, rfl, rfl, hpar, HV, hbelq⟩ := hrel
        have hbelw := hbel2.trans (hbelq.mono hbel2.size)
        by_cases hltm : m < l.parts.length
        · obtain ⟨b9, o9, p, rfl, hbb9, hxp, q9⟩ := (hps2.below hbelq (Nat.le_refl _)).at hltm
          have HXP := Lib.hid hxp
          clear hxp
          have hL := (HLk.out.below hbelq (Nat.le_refl _)).up hbelq.size
          go_wp2_with fail
          refine (lineOf_any _ _ _ _ _ _ _ hL (Nat.le_refl _)).mono ?_
          rintro e w5 ⟨rfl, hb5⟩
          have hbelq5 := hbelq.trans (hb5.mono hbelq.size)
          have hbelw5 := hbelw.trans (hb5.mono hbelw.size)
          have hpar5 := hpar.below hb5 (Nat.le_refl _)
          have hr := lineF_range (ls.take k) p
          by_cases hneg : lineF (ls.take k) p < 0
          · have HF : Hid (widthsF ls = ([], false)) := HSTOP.out (stepW_miss (partsBy_miss HXP.out hneg))
            obtain ⟨f, hf⟩ : ∃ f, f = lineF (ls.take k) p := ⟨_, rfl⟩
            rw [← hf] at hneg ⊢
            clear hf hr
            go_wp2_with fail
            go_ret2
            rw [HF.out]
            exact ⟨_, _, _, rfl, OwnI.nil _ _ _, hbelw5⟩
          · have HSN := Lib.hid (partsBy_snoc HXP.out HV.out hneg)
            obtain ⟨f, hf⟩ := Int.eq_ofNat_of_zero_le (show 0 ≤ lineF (ls.take k) p by omega)
            rw [hf] at hneg hr HSN ⊢
            have hfk : f < k := by have h1 := hl.out; have h2 : (ls.take k).length ≤ k := by simp; omega
                                   omega
            have hneg' : decide ((f : Int) < 0) = false := by simp
            obtain ⟨b2, o2, y, rfl, hbb2, hy, q2⟩ := ((hout2.below hbelq5 (Nat.le_refl _)).ints).at hfk
            rw [atN_get hy] at HSN
            clear hf hr hy hneg
            go_wp2_with (at_builtin; refine wpList_append_i rfl _ _ rfl W2.heap.size _ _ _ _ _ rfl rfl hpar5 (by omega) hbelq5.size ?_; intro ao' cap' w4 hown4 hg4)
            have hbr4 := below_append hbelq5 hpar5.2.2 hg4 hbelq5.size
            go_roundw
            case rel => exact ⟨m + 1, ao', cap', _, by omega, by go_num, rfl, hown4, HSN.out, hbr4⟩
            case measure => simp [intOf] <;> omega
        · obtain rfl : m = l.parts.length := by omega
          rw [List.take_of_length_le (Nat.le_refl _)] at HV
          have hpz := partsBy_ok HOW.out (fun p => by have := lineF_range (ls.take k) p; have h2 := hout.1; have h3 := hl.out; simp at this; omega) HV.out
          have HVW := Lib.hid hpz.1
          clear hpz
          have hbxq := HBX2.out.below hbelq hsz2
          have hparI := hpar.ints
          have hszq := hbelq.size
          obtain ⟨e0, e1, e2, e3, e4, e5, e6⟩ := hbxq
          go_wp2_with fail
          refine (lineWidth_any _ l pa po _ _ _ v hparI (okW_okZ HVW.out) hnm).mono ?_
          rintro e w5 ⟨rfl, hb5⟩
          have hbelq5 := hbelq.trans (hb5.mono hbelq.size)
          have hbelw5 := hbelw.trans (hb5.mono hbelw.size)
          have hout5 := hout2.below hbelq5 (Nat.le_refl _)
          have hbits5 := hbits2.below hbelq5 (by omega)
          have hszq5 := hbelq5.size
          clear e0 e1 e2 e3 e4 e5 e6
          obtain ⟨e0, e1, e2, e3, e4, e5, e6⟩ := HBX2.out.below hbelq5 hsz2
          by_cases hz0 : lnWidth l v = 0
          · have HF : Hid (widthsF ls = ([], false)) := HSTOP.out (stepW_zero HV.out hz0)
            rw [hz0]
            clear hz0
            go_wp2_with fail
            go_quiet (fail)
            go_wp2_with fail
            go_ret2
            rw [HF.out]
            exact ⟨_, _, _, rfl, OwnI.nil _ _ _, bdrewN hbelw5 _⟩
          have hrange := lnWidth_range HVW.out hz0
          have HPT := Lib.hid (fun hk => lnWidth_party (x := l) (v := v) hz0 hk)
          have HSX := Lib.hid (lnWidth_six (x := l) (v := v) hz0)
          have HNZ := Lib.hid hz0
          have HVV := Lib.hid HV.out
          obtain ⟨z, hz⟩ : ∃ z, z = lnWidth l v := ⟨_, rfl⟩
          have HZ := Lib.hid hz
          rw [← hz] at hrange ⊢
          have zb : (z == 0) = false := by simp; omega
          clear hz hz0
          by_cases hnm0 : l.name = ByteArray.empty
          · have HR2 : Hid (runW (ls.take (k + 1)) = some (ws ++ [z], b0, b1, o + 1)) := by
              have hk6 := HSX.out.2 hnm0
              show _ = _
              rw [HSTEP.out, stepW_some HV.out HNZ.out (fun h => (h hnm0).elim), HZ.out]
              simp [hk6]
            have a1 : (l.kind == 1) = false := by have := HSX.out.2 hnm0; simp; omega
            have a6 : (l.kind == 6) = true := by have := HSX.out.2 hnm0; simp [this]
            have zname : (l.name.toList == []) = true := by rw [hnm0, empty_list]; rfl
            have uname : (([] : List UInt8) == l.name.toList) = true := by rw [hnm0, empty_list]; rfl
            clear hnm0
            go_wp2_with fail
            go_quiet (fail)
            have hbeld := bdrewN hbelw5 nq
            have houtd : OwnI W1.heap.size (w5.drewN nq) co k cap ws := hout5
            have hbitsd : Bits2 (w5.drewN nq) Wa.heap.size b0 b1 := hbits5
            have hszd : W2.heap.size ≤ (w5.drewN nq).heap.size := hszq5
            have e0d := (show (w5.drewN nq).cell? ⟨_, 0, none⟩ = some (.int .i64 l.kind) from e0)
            clear e0 e1 e2 e3 e4 e5 e6
            generalize w5.drewN nq = wd at hbeld houtd hbitsd hszd e0d ⊢
            go_wp2_with (at_builtin; refine wpList_append_i rfl _ _ rfl W1.heap.size _ _ _ _ _ rfl (by first | rfl | (simp; rfl)) houtd (by omega) (by omega) ?_; intro ao' cap' w8 hown8 hg8)
            have hbe8 := hbeld.grown hg8 (Nat.le_trans (by omega) hbeld.size) (fun q hq => by have := houtd.rowLt q hq; omega)
            have hbi8 := hbitsd.grown hg8 (by have := hszd; omega) (fun e => by have := houtd.rowLt _ e.symm; omega)
            have hsz8 := hg8.size
            go_roundw
            case rel => exact ⟨k + 1, ao', cap', _, b0, b1, o + 1, by omega, by go_num, rfl, rfl, hown8, HR2.out, hbi8, by omega, hbe8, by have := hszd; omega⟩
            case measure => simp [intOf] <;> omega
          have zname : (l.name.toList == []) = false := by rw [← empty_list]; exact seq_no hnm0
          have uname : (([] : List UInt8) == l.name.toList) = false := by rw [← empty_list]; exact seq_no (fun e => hnm0 e.symm)
          have HNM := Lib.hid hnm0
          clear hnm0
          have a6 : (l.kind == 6) = false := by simp; exact fun h => HNM.out (HSX.out.1 h)
          go_wp2_with fail
          go_still_tail 12, (by kernel_rfl)
          change wpList _ _ _ _ _ w5.drew
          have hbeld := hbelq5.drew
          have hbelwd := hbelw5.drew
          have hszd : W2.heap.size ≤ w5.drew.heap.size := hbeld.size
          generalize w5.drew = wd at *
          have hLd := (HLk.out.below hbeld (Nat.le_refl _)).up hbeld.size
          go_wp2_with fail
          refine (lineOf_any _ _ _ _ _ _ _ hLd (Nat.le_refl _)).mono ?_
          rintro e w6 ⟨rfl, hb6⟩
          have hbel6 := hbeld.trans (hb6.mono hbeld.size)
          have hbelw6 := hbelwd.trans (hb6.mono hbelwd.size)
          by_cases hge : 0 ≤ lineF (ls.take k) l.name
          · have HF : Hid (widthsF ls = ([], false)) := HSTOP.out (stepW_twice HV.out HNM.out hge)
            have hge' : decide (lineF (ls.take k) l.name ≥ 0) = true := by simp [hge]
            go_wp2_with fail
            go_ret2
            rw [HF.out]
            exact ⟨_, _, _, rfl, OwnI.nil _ _ _, hbelw6⟩
          have HGE := Lib.hid hge
          have hge' : ¬ lineF (ls.take k) l.name ≥ 0 := hge
          have hge2 : decide (lineF (ls.take k) l.name ≥ 0) = false := by simp; omega
          clear hge
          have hout6 := hout2.below hbel6 (Nat.le_refl _)
          have hbits6 := hbits2.below hbel6 (by omega)
          have hsz6 := hbel6.size
          clear e0 e1 e2 e3 e4 e5 e6
          obtain ⟨e0, e1, e2, e3, e4, e5, e6⟩ := HBX2.out.below hbel6 hsz2
          by_cases hk1 : l.kind = 1
          rotate_left
          · have HR2 : Hid (runW (ls.take (k + 1)) = some (ws ++ [z], b0, b1, o)) := by
              have hk6 : ¬ l.kind = 6 := by simpa using a6
              show _ = _
              rw [HSTEP.out, stepW_some HV.out HNZ.out (fun _ => HGE.out), HZ.out]
              simp [hk1, hk6]
            have a1 : (l.kind == 1) = false := by simp [hk1]
            clear hk1
            go_wp2_with (at_builtin; refine wpList_append_i rfl _ _ rfl W1.heap.size _ _ _ _ _ rfl (by first | rfl | (simp; rfl)) hout6 (by omega) (by omega) ?_; intro ao' cap' w8 hown8 hg8)
            have hbe8 := hbelw6.grown hg8 (Nat.le_trans (by omega) hbelw6.size) (fun q hq => by have := hout6.rowLt q hq; omega)
            have hbi8 := hbits6.grown hg8 (by have := hsz6; omega) (fun e => by have := hout6.rowLt _ e.symm; omega)
            have hsz8 := hg8.size
            go_roundw
            case rel => exact ⟨k + 1, ao', cap', _, b0, b1, o, by omega, by go_num, rfl, rfl, hown8, HR2.out, hbi8, by omega, hbe8, by have := hsz6; omega⟩
            case measure => simp [intOf] <;> omega
          have a1 : (l.kind == 1) = true := by simp [hk1]
          rcases HPT.out hk1 with hp | hp
          · have HR2 : Hid (runW (ls.take (k + 1)) = some (ws ++ [z], b0 + z, b1, o)) := by
              show _ = _
              rw [HSTEP.out, stepW_some HV.out HNZ.out (fun _ => HGE.out), HZ.out]
              simp [hk1, hp]
            rw [hp] at e4
            clear hk1 hp
            obtain ⟨W7, hW7⟩ : ∃ W7, W7 = w6.setCell ⟨Wa.heap.size, 0, none⟩ (.int .i64 (b0 + z)) := ⟨_, rfl⟩
            have hbits7 : Bits2 W7 Wa.heap.size (b0 + z) b1 := by rw [hW7]; exact hbits6.set0 _
            have hout7 : OwnI W1.heap.size W7 co k cap ws := by rw [hW7]; exact hout6.other (grown_setCell _ _ _) (fun q l h1 h2 => by have := hout6.rowLt q h1; simp at h2; omega)
            have hbe7 : Below w.heap.size w W7 := by rw [hW7]; exact below_set hbelw6 _ _ (by show w.heap.size ≤ Wa.heap.size; omega)
            have hsz7 : w6.heap.size ≤ W7.heap.size := by rw [hW7]; simp
            have HW7 := Lib.hid hW7
            clear hW7
            obtain ⟨c0, c1, f0, f1⟩ := hbits6
            go_wp2_with (first | rw [← HW7.out] | (at_builtin; refine wpList_append_i rfl _ _ rfl W1.heap.size _ _ _ _ _ rfl (by first | rfl | (simp; rfl)) hout7 (by omega) (by omega) ?_; intro ao' cap' w8 hown8 hg8))
            clear c0 c1 f0 f1
            have hbe8 := hbe7.grown hg8 (Nat.le_trans (by omega) hbe7.size) (fun q hq => by have := hout7.rowLt q hq; omega)
            have hbi8 := hbits7.grown hg8 (by have := hsz7; omega) (fun e => by have := hout7.rowLt _ e.symm; omega)
            have hsz8 := hg8.size
            go_roundw
            case rel => exact ⟨k + 1, ao', cap', _, b0 + z, b1, o, by omega, by go_num, rfl, rfl, hown8, HR2.out, hbi8, by omega, hbe8, by have := hsz7; omega⟩
            case measure => simp [intOf] <;> omega
          · have HR2 : Hid (runW (ls.take (k + 1)) = some (ws ++ [z], b0, b1 + z, o)) := by
              show _ = _
              rw [HSTEP.out, stepW_some HV.out HNZ.out (fun _ => HGE.out), HZ.out]
              simp [hk1, hp]
            rw [hp] at e4
            clear hk1 hp
            obtain ⟨W7, hW7⟩ : ∃ W7, W7 = w6.setCell ⟨Wa.heap.size, 1, none⟩ (.int .i64 (b1 + z)) := ⟨_, rfl⟩
            have hbits7 : Bits2 W7 Wa.heap.size b0 (b1 + z) := by rw [hW7]; exact hbits6.set1 _
            have hout7 : OwnI W1.heap.size W7 co k cap ws := by rw [hW7]; exact hout6.other (grown_setCell _ _ _) (fun q l h1 h2 => by have := hout6.rowLt q h1; simp at h2; omega)
            have hbe7 : Below w.heap.size w W7 := by rw [hW7]; exact below_set hbelw6 _ _ (by show w.heap.size ≤ Wa.heap.size; omega)
            have hsz7 : w6.heap.size ≤ W7.heap.size := by rw [hW7]; simp
            have HW7 := Lib.hid hW7
            clear hW7
            obtain ⟨c0, c1, f0, f1⟩ := hbits6
            go_wp2_with (first | rw [← HW7.out] | (at_builtin; refine wpList_append_i rfl _ _ rfl W1.heap.size _ _ _ _ _ rfl (by first | rfl | (simp; rfl)) hout7 (by omega) (by omega) ?_; intro ao' cap' w8 hown8 hg8))
            clear c0 c1 f0 f1
            have hbe8 := hbe7.grown hg8 (Nat.le_trans (by omega) hbe7.size) (fun q hq => by have := hout7.rowLt q hq; omega)
            have hbi8 := hbits7.grown hg8 (by have := hsz7; omega) (fun e => by have := hout7.rowLt _ e.symm; omega)
            have hsz8 := hg8.size
            go_roundw
            case rel => exact ⟨k + 1, ao', cap', _, b0, b1 + z, o, by omega, by go_num, rfl, rfl, hown8, HR2.out, hbi8, by omega, hbe8, by have := hsz7; omega⟩
            case measure => simp [intOf] <;> omega
    · obtain rfl : k = n := by omega
      rw [List.take_of_length_le (by rw [hl.out]; exact Nat.le_refl _)] at HR
      have HE := Lib.hid (runW_end HR.out (by rw [hl.out]; omega))
      obtain ⟨c0, c1, f0, f1⟩ := hbits
      by_cases q0 : b0 ≤ 20
      rotate_left
      · have HF : Hid (widthsF ls = (ws, false)) := by show _ = _; rw [HE.out]; simp [q0]
        have q0' : decide (b0 ≤ 20) = false := by simp [q0]
        go_wp2_with fail
        go_ret2
        rw [HF.out]
        exact ⟨_, _, _, rfl, hout.up (by omega), hbel⟩
      have q0' : decide (b0 ≤ 20) = true := by simp [q0]
      by_cases q1 : b1 ≤ 20
      rotate_left
      · have HF : Hid (widthsF ls = (ws, false)) := by show _ = _; rw [HE.out]; simp [q1]
        have q1' : decide (b1 ≤ 20) = false := by simp [q1]
        go_wp2_with fail
        go_ret2
        rw [HF.out]
        exact ⟨_, _, _, rfl, hout.up (by omega), hbel⟩
      have q1' : decide (b1 ≤ 20) = true := by simp [q1]
      by_cases q2 : o ≤ 10
      rotate_left
      · have HF : Hid (widthsF ls = (ws, false)) := by show _ = _; rw [HE.out]; simp [q2]
        have q2' : decide (o ≤ 10) = false := by simp [q2]
        go_wp2_with fail
        go_ret2
        rw [HF.out]
        exact ⟨_, _, _, rfl, hout.up (by omega), hbel⟩
      · have HF : Hid (widthsF ls = (ws, true)) := by show _ = _; rw [HE.out]; simp [q0, q1, q2]
        have q2' : decide (o ≤ 10) = true := by simp [q2]
        go_wp2_with fail
        go_ret2
        rw [HF.out]
        exact ⟨_, _, _, rfl, hout.up (by omega), hbel⟩
theorem impl_IsProgram_any (w : World) (ao : Option Addr) (n c : Nat) (ls : List Ln) (h : Lns w w.heap.size ao n ls) (hs : okS ls) (hnc : n ≤ c) :
    Calls Tryz.prog 21 #[.slice ao n c] w (RetB (laGoodF ls) w) := by
  have HF := Lib.hid (widths_good ls).1
  go_enter Tryz.func21, Tryz.ntmps21
  go_wp2_with fail
  refine (widths_any _ _ _ _ _ h hs hnc).mono ?_
  rintro e w1 ⟨a1, n1, c1, rfl, ho1, hb1⟩
  go_wp2_with fail
  go_ret
  exact ⟨ret_bool HF.out, hb1⟩
end Go.Proofs.YtdlddkgmjpmenaaGreatDoor
/-
  The language: the width of a name, both ways.
-/
namespace Go.Proofs.YtdlddkgmjpmenaaGreatDoor
open Go.RowKit
set_option linter.unusedVariables false
set_option linter.unusedSimpArgs false

def wonF (ls : List Ln) (name : ByteArray) : Int × Bool := if laGoodF ls = true ∧ 0 ≤ findF ls name then (atN (laWidths ls) (findF ls name), true) else (0, false)
theorem RetNB.eq {r : Int × Bool} {a : Int} {b : Bool} {w w' : World} (h : r = (a, b)) (hb : Below w.heap.size w w') : RetNB r w (.returned (.tuple #[.int .i64 a, .bool b])) w' := by
  subst h; exact ⟨rfl, hb⟩
set_option maxRecDepth 20000 in
set_option maxHeartbeats 4000000 in
theorem spec_WidthOfName_any (w : World) (ao : Option Addr) (n c : Nat) (ls : List Ln) (name : ByteArray) (h : Lns w w.heap.size ao n ls) (hs : okS ls) (hn20 : n ≤ 1048576) (hnc : n ≤ c) :
    Calls Tryz.prog 18 #[.slice ao n c, .string name] w (RetNB (wonF ls name) w) := by
  have hl := Lib.hid h.1
  go_enter Tryz.func18, Tryz.ntmps18
  go_wp2_with fail
  refine (laGood_any _ _ _ _ _ h hs hnc).mono ?_
  rintro e w1 ⟨rfl, hb1⟩
  cases hg : laGoodF ls
  · have HF : Hid (wonF ls name = (0, false)) := by show _ = _; unfold wonF; rw [hg]; simp
    go_wp2_with fail
    go_ret2
    exact RetNB.eq HF.out hb1
  have HG := Lib.hid hg
  clear hg
  go_wp2_with fail
  refine (laFind_any _ _ _ _ _ _ name (h.below hb1 (Nat.le_refl _)) hb1.size).mono ?_
  rintro e w2 ⟨rfl, hb2⟩
  have hbw2 := hb1.trans (hb2.mono hb1.size)
  have hr := findF_range ls name
  by_cases hneg : findF ls name < 0
  · have HF : Hid (wonF ls name = (0, false)) := by show _ = _; unfold wonF; rw [if_neg (by omega)]
    have hneg' : decide (findF ls name < 0) = true := by simp [hneg]
    go_wp2_with fail
    go_ret2
    exact RetNB.eq HF.out hbw2
  have HF : Hid (wonF ls name = (atN (laWidths ls) (findF ls name), true)) := by show _ = _; unfold wonF; rw [if_pos ⟨HG.out, by omega⟩]
  obtain ⟨f, hf⟩ := Int.eq_ofNat_of_zero_le (show 0 ≤ findF ls name by omega)
  have hfn : f < n := by rw [← hl.out]; omega
  have HFF := Lib.hid hf
  rw [hf] at HF hneg hr ⊢
  have hneg' : decide ((f : Int) < 0) = false := by simp
  clear hr hneg hf
  go_wp2_with fail
  refine (laWidths_any _ _ _ _ _ ((h.below hbw2 (Nat.le_refl _)).up hbw2.size) hs hn20 hnc).mono ?_
  rintro e w3 ⟨a3, n3, c3, rfl, ho3, hb3⟩
  obtain rfl : n3 = n := by have := ho3.1; rw [laWidths_length, hl.out] at this; exact this.symm
  have hbw3 := hbw2.trans (hb3.mono hbw2.size)
  have HO3 := Lib.hid ho3
  go_wp2_with fail
  refine (laFind_any _ _ _ _ _ _ name (h.below hbw3 (Nat.le_refl _)) hbw3.size).mono ?_
  rintro e w4 ⟨rfl, hb4⟩
  rw [HFF.out]
  obtain ⟨b2, o2, y, rfl, hbb2, hy, q2⟩ := ((HO3.out.below hb4 (Nat.le_refl _)).ints).at hfn
  rw [atN_get hy] at HF
  clear hy ho3
  go_wp2_with fail
  go_ret2
  exact RetNB.eq HF.out (hbw3.trans (hb4.mono hbw3.size))
set_option maxRecDepth 20000 in
set_option maxHeartbeats 4000000 in
theorem impl_WidthOfName_any (w : World) (ao : Option Addr) (n c : Nat) (ls : List Ln) (name : ByteArray) (h : Lns w w.heap.size ao n ls) (hs : okS ls) (hnc : n ≤ c) :
    Calls Tryz.prog 17 #[.slice ao n c, .string name] w (RetNB (wonF ls name) w) := by
  have hl := Lib.hid h.1
  go_enter Tryz.func17, Tryz.ntmps17
  go_wp2_with fail
  refine (widths_any _ _ _ _ _ h hs hnc).mono ?_
  rintro e w1 ⟨a1, n1, c1, rfl, ho1, hb1⟩
  have hok := (widths_good ls).1
  rw [hok]
  have HO1 := Lib.hid ho1
  clear ho1 hok
  cases hg : laGoodF ls
  · have HF : Hid (wonF ls name = (0, false)) := by show _ = _; unfold wonF; rw [hg]; simp
    clear hg
    go_wp2_with fail
    refine (lineOf_any _ _ _ _ _ _ name (h.below hb1 (Nat.le_refl _)) hb1.size).mono ?_
    rintro e w2 ⟨rfl, hb2⟩
    go_wp2_with fail
    go_ret2
    exact RetNB.eq HF.out (hb1.trans (hb2.mono hb1.size))
  have HG := Lib.hid hg
  have hW := (widths_good ls).2 hg
  have HFA := Lib.hid (find_agree hW.2.2.2 name)
  have HO2 := HO1.out
  rw [hW.1] at HO2
  have HW := Lib.hid HO2
  clear HO2 hW hg HO1
  go_wp2_with fail
  refine (lineOf_any _ _ _ _ _ _ name (h.below hb1 (Nat.le_refl _)) hb1.size).mono ?_
  rintro e w2 ⟨rfl, hb2⟩
  have hbw2 := hb1.trans (hb2.mono hb1.size)
  rw [← HFA.out]
  have hr := findF_range ls name
  by_cases hneg : findF ls name < 0
  · have HF : Hid (wonF ls name = (0, false)) := by show _ = _; unfold wonF; rw [if_neg (by omega)]
    have hneg' : decide (findF ls name < 0) = true := by simp [hneg]
    go_wp2_with fail
    go_ret2
    exact RetNB.eq HF.out hbw2
  have HF : Hid (wonF ls name = (atN (laWidths ls) (findF ls name), true)) := by show _ = _; unfold wonF; rw [if_pos ⟨HG.out, by omega⟩]
  have hln := HW.out.1
  rw [laWidths_length] at hln
  obtain ⟨f, hf⟩ := Int.eq_ofNat_of_zero_le (show 0 ≤ findF ls name by omega)
  have hfn : f < n1 := by rw [← hln]; omega
  rw [hf] at HF hneg hr ⊢
  have hneg' : decide ((f : Int) < 0) = false := by simp
  clear hr hneg hf hln
  obtain ⟨b2, o2, y, rfl, hbb2, hy, q2⟩ := ((HW.out.below hb2 (Nat.le_refl _)).ints).at hfn
  rw [atN_get hy] at HF
  clear hy
  go_wp2_with fail
  go_ret2
  exact RetNB.eq HF.out hbw2
end Go.Proofs.YtdlddkgmjpmenaaGreatDoor
/-
  The language: the widths of results and of inputs, both ways.
-/
namespace Go.Proofs.YtdlddkgmjpmenaaGreatDoor
open Go.RowKit
set_option linter.unusedVariables false
set_option linter.unusedSimpArgs false

/-- The widths of the lines that fulfil something. -/
def pickW (p : Ln → Bool) (ls : List Ln) (ws : List Int) : List Int := ((ls.zip ws).filter fun x => p x.1).map (·.2)
theorem pickW_step {p : Ln → Bool} {ls : List Ln} {ws : List Int} {k : Nat} {l : Ln} {v : Int} (h : ls[k]? = some l) (hv : ws[k]? = some v) (hk : k ≤ ls.length) (hk2 : k ≤ ws.length) : pickW p (ls.take (k + 1)) (ws.take (k + 1)) = pickW p (ls.take k) (ws.take k) ++ (if p l = true then [v] else []) := by
  unfold pickW
  rw [List.take_add_one, h, List.take_add_one, hv, List.zip_append (by simp; omega), List.filter_append, List.map_append]
  congr 1
  cases hb : p l
  · simp [hb]
  · simp [hb]
def byF (p : Ln → Bool) (ls : List Ln) : List Int × Bool := if laGoodF ls = true then (pickW p ls (laWidths ls), true) else ([], false)
theorem RetIB.eq {r : List Int × Bool} {ao : Option Addr} {n c : Nat} {xs : List Int} {b : Bool} {w w' : World} (h : r = (xs, b)) (ho : OwnI w.heap.size w' ao n c xs) (hb : Below w.heap.size w w') : RetIB r w (.returned (.tuple #[.slice ao n c, .bool b])) w' := by
  subst h; exact ⟨_, _, _, rfl, ho, hb⟩
set_option maxRecDepth 100000 in
set_option maxHeartbeats 8000000 in
theorem widthsBy_any (w : World) (ao : Option Addr) (n c : Nat) (ls : List Ln) (h : Lns w w.heap.size ao n ls) (hs : okS ls) (hnc : n ≤ c) (g : FuncId) (caps : Array Value) (p : Ln → Bool)
    (hen : ∀ (args : Array Value) (W : World), (callFunc g args).run Tryz.prog W = .ok (.enter g args) W)
    (hp : ∀ (W : World) (l : Ln) (pa : Option Addr) (pc : Nat), Below w.heap.size w W → Calls Tryz.prog g (#[lineV l pa pc] ++ caps) W (RetB (p l) W)) :
    Calls Tryz.prog 53 #[.slice ao n c, .func (.func g) #[] caps] w (RetIB (byF p ls) w) := by
  have hn := h.le
  have hl := Lib.hid h.1
  have HP := Lib.hid hp
  clear hp
  go_enter Tryz.func53, Tryz.ntmps53
  go_wp2_with fail
  refine (widths_any _ _ _ _ _ h hs hnc).mono ?_
  rintro e w1 ⟨a1, n1, c1, rfl, ho1, hb1⟩
  have hok := (widths_good ls).1
  rw [hok]
  have HO1 := Lib.hid ho1
  clear ho1 hok
  cases hg : laGoodF ls
  · have HF : Hid (byF p ls = ([], false)) := by show _ = _; unfold byF; rw [hg]; simp
    clear hg
    go_wp2_with fail
    go_ret2
    exact RetIB.eq HF.out (OwnI.nil _ _ _) hb1
  have HF : Hid (byF p ls = (pickW p ls (laWidths ls), true)) := by show _ = _; unfold byF; rw [if_pos hg]
  have h30 : ls.length ≤ 30 := by
    have hg2 := hg
    unfold laGoodF at hg2
    rw [Bool.and_eq_true] at hg2
    simpa using hg2.1
  have HO2 := HO1.out
  rw [((widths_good ls).2 hg).1] at HO2
  obtain ⟨ws, hws⟩ : ∃ ws, ws = laWidths ls := ⟨_, rfl⟩
  have hwl : ws.length = n := by rw [hws, laWidths_length, hl.out]
  rw [← hws] at HF HO2
  obtain rfl : n1 = n := by rw [← HO2.1, hwl]
  rw [hl.out] at h30
  have HWL := Lib.hid hwl
  have hI := HO2.ints
  clear HO2 hg HO1 hws hwl
  have h1 := h.below hb1 (Nat.le_refl _)
  obtain ⟨W3, hW3⟩ : ∃ W3, W3 = w1.alloc (.cells #[] 3) := ⟨_, rfl⟩
  have hal3 : Below w1.heap.size w1 W3 := by rw [hW3]; exact (Below.refl _ _).alloc (Nat.le_refl _) _
  have hb3 := hb1.trans (hal3.mono hb1.size)
  have h3 := h.below hb3 (Nat.le_refl _)
  have hI3 := (hI.below hal3 (Nat.le_refl _)).up hal3.size
  have HW3 := Lib.hid hW3
  clear hW3 h1 hI
  go_wp2_with (rw [← HW3.out])
  go_loopw [8, 21] (fun out i wr => ∃ (k : Nat) (co : Option Addr) (m cap : Nat), k ≤ n1 ∧ m ≤ k ∧ i = .int .i64 k ∧ out = .slice co m cap ∧ OwnI W3.heap.size wr co m cap (pickW p (ls.take k) (ws.take k)) ∧ Below W3.heap.size W3 wr) (fun _ i _ => n1 - (intOf i).toNat)
  case atStart => exact ⟨0, _, 0, 0, Nat.zero_le _, Nat.le_refl _, rfl, rfl, by simpa [pickW] using OwnI.nil _ _ _, Below.refl _ _⟩
  case round =>
    obtain ⟨k, co, m, cap, hk, hmk, rfl, rfl, hout, hbel⟩ := hrel
    have hbelw := hb3.trans (hbel.mono hb3.size)
    by_cases hlt : k < n1
    · obtain ⟨b, o, l, pa, pc, rfl, hb, hx, hps, g0, g1, g2, g3, g4, g5, g6⟩ := (h3.below hbel hb3.size).at hlt
      obtain ⟨b2, o2, v, rfl, hb2, hv, q2⟩ := (hI3.below hbel (Nat.le_refl _)).at hlt
      have HS := Lib.hid (pickW_step (p := p) hx hv (by rw [hl.out]; exact hk) (by rw [HWL.out]; exact hk))
      clear hx hv
      obtain ⟨W2, hW2⟩ : ∃ W2, W2 = wr.alloc (lineObj l pa pc) := ⟨_, rfl⟩
      have hal : Below wr.heap.size wr W2 := by rw [hW2]; exact (Below.refl _ _).alloc (Nat.le_refl _) _
      have hbx : BoxL W2 wr.heap.size l pa pc := by rw [hW2]; exact boxL_new _ _ _ _
      have HW2 := Lib.hid hW2
      clear hW2
      obtain ⟨e0, e1, e2, e3, e4, e5, e6⟩ := hbx
      have hbel2 := hbel.trans (hal.mono hbel.size)
      have hbelw2 := hb3.trans (hbel2.mono hb3.size)
      have hout2 := hout.below hal (Nat.le_refl _)
      have HC := Lib.hid (HP.out W2 l pa pc hbelw2)
      unfold lineV at HC
      unfold lineObj at HW2
      cases hpx : p l
      · have HS2 : Hid (pickW p (ls.take (k + 1)) (ws.take (k + 1)) = pickW p (ls.take k) (ws.take k)) := by show _ = _; rw [HS.out, hpx]; simp
        have HPX := Lib.hid hpx
        clear hpx
        go_wp2_with (first | rw [← HW2.out] | ((with_reducible refine (HC.out).mono ?_); rintro e w5 ⟨rfl, hbx⟩; rw [HPX.out]))
        go_roundw
        case rel => exact ⟨k + 1, co, m, cap, by omega, by omega, by go_num, rfl, by rw [HS2.out]; exact hout2.below hbx (Nat.le_refl _), hbel2.trans (hbx.mono hbel2.size)⟩
        case measure => simp [intOf] <;> omega
      · have HS2 : Hid (pickW p (ls.take (k + 1)) (ws.take (k + 1)) = pickW p (ls.take k) (ws.take k) ++ [v]) := by show _ = _; rw [HS.out, hpx]; simp
        have HPX := Lib.hid hpx
        have HQ := Lib.hid (fun W (hW : Below W2.heap.size W2 W) => (hal.trans (hW.mono hal.size)).cell (p := ⟨b2, o2 + k, none⟩) (by have := hbel.size; exact Nat.lt_of_lt_of_le hb2 this))
        clear hpx
        go_wp2_with (first | rw [← HW2.out] | ((with_reducible refine (HC.out).mono ?_); rintro e w5 ⟨rfl, hbx⟩; rw [HPX.out]; have q5 := (HQ.out w5 hbx).trans q2; have hout5 := hout2.below hbx (Nat.le_refl _); have hbel5 := hbel2.trans (hbx.mono hbel2.size)) | (at_builtin; refine wpList_append_i rfl _ _ rfl W3.heap.size _ _ _ _ _ rfl (by first | rfl | (simp; rfl)) hout5 (by omega) hbel5.size ?_; intro ao' cap' w4 hown4 hg4))
        have hbr4 := below_append hbel5 hout5.2.2 hg4 hbel5.size
        go_roundw
        case rel => exact ⟨k + 1, ao', m + 1, cap', by omega, by omega, by go_num, rfl, by rw [HS2.out]; exact hown4, hbr4⟩
        case measure => simp [intOf] <;> omega
    · obtain rfl : k = n1 := by omega
      rw [List.take_of_length_le (by rw [hl.out]; exact Nat.le_refl _), List.take_of_length_le (by rw [HWL.out]; exact Nat.le_refl _)] at hout
      go_wp2_with fail
      go_ret2
      exact RetIB.eq HF.out (hout.up hb3.size) hbelw
theorem outWidths1_any (w : World) (l : Ln) (pa : Option Addr) (pc : Nat) : Calls Tryz.prog 54 #[lineV l pa pc] w (RetB (l.kind == 6) w) := by
  obtain ⟨W2, hW2⟩ : ∃ W2, W2 = w.alloc (lineObj l pa pc) := ⟨_, rfl⟩
  have hal : Below w.heap.size w W2 := by rw [hW2]; exact (Below.refl _ _).alloc (Nat.le_refl _) _
  have hbx : BoxL W2 w.heap.size l pa pc := by rw [hW2]; exact boxL_new _ _ _ _
  have HW2 := Lib.hid hW2
  clear hW2
  obtain ⟨e0, e1, e2, e3, e4, e5, e6⟩ := hbx
  unfold lineObj at HW2
  unfold lineV
  go_enter Tryz.func54, Tryz.ntmps54
  go_wp2_with (rw [← HW2.out])
  go_ret
  exact ⟨rfl, hal⟩
theorem inWidths1_any (w : World) (l : Ln) (pa : Option Addr) (pc gb : Nat) (p : Int) (hc : w.cell? ⟨gb, 0, none⟩ = some (.int .i64 p)) (hgb : gb < w.heap.size) : Calls Tryz.prog 97 #[lineV l pa pc, .pointer (some ⟨gb, 0, none⟩)] w (RetB (l.kind == 1 && l.party == p) w) := by
  obtain ⟨W2, hW2⟩ : ∃ W2, W2 = w.alloc (lineObj l pa pc) := ⟨_, rfl⟩
  have hal : Below w.heap.size w W2 := by rw [hW2]; exact (Below.refl _ _).alloc (Nat.le_refl _) _
  have hbx : BoxL W2 w.heap.size l pa pc := by rw [hW2]; exact boxL_new _ _ _ _
  have hc2 := (hal.cell (p := ⟨gb, 0, none⟩) hgb).trans hc
  have HW2 := Lib.hid hW2
  clear hW2 hc
  obtain ⟨e0, e1, e2, e3, e4, e5, e6⟩ := hbx
  unfold lineObj at HW2
  unfold lineV
  cases k1 : (l.kind == 1)
  · go_enter Tryz.func97, Tryz.ntmps97
    go_wp2_with (rw [← HW2.out])
    go_ret
    exact ⟨ret_bool (by simp), hal⟩
  · go_enter Tryz.func97, Tryz.ntmps97
    go_wp2_with (rw [← HW2.out])
    go_ret
    exact ⟨ret_bool (by simp), hal⟩
def outWF (ls : List Ln) : List Int × Bool := if laGoodF ls = true then (outsW ls (laWidths ls), true) else ([], false)
theorem outWF_by (ls : List Ln) : outWF ls = byF (fun l => l.kind == 6) ls := rfl
theorem spec_OutWidths_any (w : World) (ao : Option Addr) (n c : Nat) (ls : List Ln) (h : Lns w w.heap.size ao n ls) (hs : okS ls) (hn20 : n ≤ 1048576) (hnc : n ≤ c) :
    Calls Tryz.prog 25 #[.slice ao n c] w (RetIB (outWF ls) w) := by
  go_enter Tryz.func25, Tryz.ntmps25
  go_wp2_with fail
  refine (laGood_any _ _ _ _ _ h hs hnc).mono ?_
  rintro e w1 ⟨rfl, hb1⟩
  cases hg : laGoodF ls
  · have HF : Hid (outWF ls = ([], false)) := by show _ = _; unfold outWF; rw [hg]; simp
    go_wp2_with fail
    go_ret2
    exact RetIB.eq HF.out (OwnI.nil _ _ _) hb1
  · have HF : Hid (outWF ls = (outsW ls (laWidths ls), true)) := by show _ = _; unfold outWF; rw [if_pos hg]
    clear hg
    go_wp2_with fail
    refine (laOuts_any _ _ _ _ _ ((h.below hb1 (Nat.le_refl _)).up hb1.size) hs hn20 hnc).mono ?_
    rintro e w2 ⟨a2, n2, c2, rfl, ho2, hb2⟩
    go_wp2_with fail
    go_ret2
    exact RetIB.eq HF.out (ho2.up hb1.size) (hb1.trans (hb2.mono hb1.size))
theorem impl_OutWidths_any (w : World) (ao : Option Addr) (n c : Nat) (ls : List Ln) (h : Lns w w.heap.size ao n ls) (hs : okS ls) (hnc : n ≤ c) :
    Calls Tryz.prog 24 #[.slice ao n c] w (RetIB (outWF ls) w) := by
  rw [outWF_by]
  have hen : ∀ (args : Array Value) (W : World), (callFunc 54 args).run Tryz.prog W = .ok (.enter 54 args) W := fun _ _ => by kernel_rfl
  have HC := Lib.hid (widthsBy_any w ao n c ls h hs hnc 54 #[] (fun l => l.kind == 6) hen (fun W l pa pc _ => outWidths1_any W l pa pc))
  clear hen
  go_enter Tryz.func24, Tryz.ntmps24
  go_wp2_with fail
  refine (HC.out).mono ?_
  rintro e w2 ⟨a2, n2, c2, rfl, ho2, hb2⟩
  go_wp2_with fail
  go_ret2
  exact ⟨_, _, _, rfl, ho2, hb2⟩
def inWF (ls : List Ln) (p : Int) : List Int × Bool := if laGoodF ls = true ∧ inB p 0 1 = true then (inputsL ls p, true) else ([], false)
theorem input_width {done : List Ln} {ws : List Int} {x : Ln} (h : laWidth done ws x ≠ 0) (hk : x.kind = 1) : laWidth done ws x = x.width := by
  unfold laWidth at h ⊢
  split at h
  · exact (h rfl).elim
  · next w hw =>
    split at h
    · exact (h rfl).elim
    · next g1 =>
      split at h
      · exact (h rfl).elim
      · next g2 =>
        rw [if_neg g1, if_neg g2]
        unfold kindW at h ⊢
        rw [if_pos hk] at h ⊢
        split at h
        · next g => rw [if_pos g]
        · exact (h rfl).elim
theorem pick_inputs (p : Int) : ∀ (ls : List Ln) (ws : List Int), ls.length = ws.length → (∀ (k : Nat) (x : Ln) (y : Int), ls[k]? = some x → ws[k]? = some y → x.kind = 1 → y = x.width) → inputsL ls p = pickW (fun l => l.kind == 1 && l.party == p) ls ws
  | [], [], _, _ => rfl
  | [], _ :: _, h, _ => by simp at h
  | _ :: _, [], h, _ => by simp at h
  | x :: ls, y :: ws, h, hx => by
    have ih := pick_inputs p ls ws (by simpa using h) fun k a b h1 h2 => hx (k + 1) a b (by simpa using h1) (by simpa using h2)
    unfold inputsL pickW at ih ⊢
    rw [List.zip_cons_cons]
    cases hb : (x.kind == 1 && x.party == p)
    · rw [List.filter_cons_of_neg (by simp only [hb]; decide), List.filter_cons_of_neg (by simp only [hb]; decide), ih]
    · rw [List.filter_cons_of_pos (by simp only [hb]), List.filter_cons_of_pos (by simp only [hb]), List.map_cons, List.map_cons, ih]
      congr 1
      simp only [Bool.and_eq_true, beq_iff_eq] at hb
      exact (hx 0 x y rfl rfl hb.1).symm
theorem inWF_by {ls : List Ln} {p : Int} (hp : inB p 0 1 = true) : inWF ls p = byF (fun l => l.kind == 1 && l.party == p) ls := by
  unfold inWF byF
  by_cases hg : laGoodF ls = true
  · rw [if_pos ⟨hg, hp⟩, if_pos hg]
    congr 1
    have hok := ((widths_good ls).2 hg).2
    refine pick_inputs p ls (laWidths ls) hok.1 fun k x y h1 h2 hk => ?_
    have h3 := laWidths_get h1
    rw [h2] at h3
    simp only [Option.some.injEq] at h3
    have h4 := hok.2.1 k y h2
    rw [h3] at h4 ⊢
    exact input_width (by omega) hk
  · rw [if_neg (fun h => hg h.1), if_neg hg]
theorem impl_InputWidths_any (w : World) (ao : Option Addr) (n c : Nat) (ls : List Ln) (p : Int) (h : Lns w w.heap.size ao n ls) (hs : okS ls) (hnc : n ≤ c) :
    Calls Tryz.prog 67 #[.slice ao n c, .int .i64 p] w (RetIB (inWF ls p) w) := by
  obtain ⟨W2, hW2⟩ : ∃ W2, W2 = w.alloc (.cells #[.int .i64 p] 3) := ⟨_, rfl⟩
  have hal : Below w.heap.size w W2 := by rw [hW2]; exact (Below.refl _ _).alloc (Nat.le_refl _) _
  have hcell : W2.cell? ⟨w.heap.size, 0, none⟩ = some (.int .i64 p) := by
    rw [hW2, cell_of_row _ w.heap.size 0 _ _ (0, 0) (heap_alloc_new w _)]; rfl
  have hsz : w.heap.size < W2.heap.size := by rw [hW2]; simp
  have HW2 := Lib.hid hW2
  clear hW2
  cases hp : inB p 0 1
  · have HF : Hid (inWF ls p = ([], false)) := by show _ = _; unfold inWF; rw [if_neg (by rw [hp]; simp)]
    have HP := Lib.hid hp
    clear hp
    go_enter Tryz.func67, Tryz.ntmps67
    go_wp2_with (first | rw [← HW2.out] | (go_at_call 96; refine (isBit2_any _ _).mono ?_; rintro e w' ⟨rfl, rfl⟩; rw [HP.out]))
    go_ret2
    exact RetIB.eq HF.out (OwnI.nil _ _ _) hal
  · rw [inWF_by hp]
    have HP := Lib.hid hp
    have hen : ∀ (args : Array Value) (W : World), (callFunc 97 args).run Tryz.prog W = .ok (.enter 97 args) W := fun _ _ => by kernel_rfl
    have HC := Lib.hid (widthsBy_any W2 ao n c ls ((h.below hal (Nat.le_refl _)).up hal.size) hs hnc 97 #[.pointer (some ⟨w.heap.size, 0, none⟩)] (fun l => l.kind == 1 && l.party == p) hen (fun W l pa pc hW => inWidths1_any W l pa pc w.heap.size p ((hW.cell (p := ⟨w.heap.size, 0, none⟩) hsz).trans hcell) (Nat.lt_of_lt_of_le hsz hW.size)))
    clear hen hp
    go_enter Tryz.func67, Tryz.ntmps67
    go_wp2_with (first | rw [← HW2.out] | (go_at_call 96; refine (isBit2_any _ _).mono ?_; rintro e w' ⟨rfl, rfl⟩; rw [HP.out]))
    refine (HC.out).mono ?_
    rintro e w2 ⟨a2, n2, c2, rfl, ho2, hb2⟩
    go_wp2_with fail
    go_ret2
    exact ⟨_, _, _, rfl, ho2.up hal.size, hal.trans (hb2.mono hal.size)⟩
end Go.Proofs.YtdlddkgmjpmenaaGreatDoor
