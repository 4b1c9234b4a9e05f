/-
  Makers of circuits: gates of each kind, the wires of a number.
-/
import Derived.Test.YtbdccgodamkljaaMak1
namespace Go.Proofs.Ytbdccgodamkljaa
open Go.RowKit
set_option linter.unusedVariables false
set_option linter.unusedSimpArgs false

theorem grew_below {B mb : Nat} {w w' : World} {i0 i1 : Int} {ga : Option Addr} {gn gc : Nat} {gs : List Int} (h : Mk B w mb i0 i1 ga gn gc gs) (g : Grew w w' ga gc mb) : Below B w w' := by
  obtain ⟨u, g1, g2⟩ := g
  obtain ⟨⟨h1, h2⟩, _, _, hown⟩ := h
  have b1 := (Below.refl B w).grown g1 (by omega) (fun k hk => by have := hown.rowLt k hk; omega)
  exact b1.grown g2 (Nat.le_trans (by omega) g1.size) (fun k hk => by simp at hk; omega)
theorem iXor_any (w : World) (B mb : Nat) (i0 i1 a b : Int) (ga : Option Addr) (gn gc : Nat) (gs : List Int) (h : Mk B w mb i0 i1 ga gn gc gs) (hr0 : inB i0 0 20 = true) (hr1 : inB i1 0 20 = true) (hn : gn ≤ 400) :
    Calls Try.prog 72 #[.pointer (some ⟨mb, 0, none⟩), .int .i64 a, .int .i64 b] w fun e w' => e = .returned (.int .i64 (i0 + i1 + gn)) ∧ ∃ ga' gc', Mk B w' mb i0 i1 ga' (gn + 1) gc' (gs ++ [0, a, b]) ∧ Grew w w' ga gc mb := by
  go_enter Try.func72, Try.ntmps72
  go_wp2_with fail
  refine (iGate_any _ _ _ _ _ _ _ _ _ _ _ _ h hr0 hr1 hn).mono ?_
  rintro e w1 ⟨rfl, ga1, gc1, m1, g1⟩
  go_wp2_with fail
  go_ret
  exact ⟨rfl, _, _, m1, g1⟩
theorem iAnd_any (w : World) (B mb : Nat) (i0 i1 a b : Int) (ga : Option Addr) (gn gc : Nat) (gs : List Int) (h : Mk B w mb i0 i1 ga gn gc gs) (hr0 : inB i0 0 20 = true) (hr1 : inB i1 0 20 = true) (hn : gn ≤ 400) :
    Calls Try.prog 73 #[.pointer (some ⟨mb, 0, none⟩), .int .i64 a, .int .i64 b] w fun e w' => e = .returned (.int .i64 (i0 + i1 + gn)) ∧ ∃ ga' gc', Mk B w' mb i0 i1 ga' (gn + 1) gc' (gs ++ [1, a, b]) ∧ Grew w w' ga gc mb := by
  go_enter Try.func73, Try.ntmps73
  go_wp2_with fail
  refine (iGate_any _ _ _ _ _ _ _ _ _ _ _ _ h hr0 hr1 hn).mono ?_
  rintro e w1 ⟨rfl, ga1, gc1, m1, g1⟩
  go_wp2_with fail
  go_ret
  exact ⟨rfl, _, _, m1, g1⟩
theorem iNot_any (w : World) (B mb : Nat) (i0 i1 a : Int) (ga : Option Addr) (gn gc : Nat) (gs : List Int) (h : Mk B w mb i0 i1 ga gn gc gs) (hr0 : inB i0 0 20 = true) (hr1 : inB i1 0 20 = true) (hn : gn ≤ 400) :
    Calls Try.prog 127 #[.pointer (some ⟨mb, 0, none⟩), .int .i64 a] w fun e w' => e = .returned (.int .i64 (i0 + i1 + gn)) ∧ ∃ ga' gc', Mk B w' mb i0 i1 ga' (gn + 1) gc' (gs ++ [2, a, 0]) ∧ Grew w w' ga gc mb := by
  go_enter Try.func127, Try.ntmps127
  go_wp2_with fail
  refine (iGate_any _ _ _ _ _ _ _ _ _ _ _ _ h hr0 hr1 hn).mono ?_
  rintro e w1 ⟨rfl, ga1, gc1, m1, g1⟩
  go_wp2_with fail
  go_ret
  exact ⟨rfl, _, _, m1, g1⟩
theorem sXor_any (w : World) (B mb : Nat) (i0 i1 a b : Int) (ga : Option Addr) (gn gc : Nat) (gs : List Int) (h : Mk B w mb i0 i1 ga gn gc gs) (hr0 : inB i0 0 20 = true) (hr1 : inB i1 0 20 = true) (hn : gn ≤ 400) :
    Calls Try.prog 112 #[.pointer (some ⟨mb, 0, none⟩), .int .i64 a, .int .i64 b] w fun e w' => e = .returned (.int .i64 (i0 + i1 + gn)) ∧ ∃ ga' gc', Mk B w' mb i0 i1 ga' (gn + 1) gc' (gs ++ [0, a, b]) ∧ Grew w w' ga gc mb := by
  go_enter Try.func112, Try.ntmps112
  go_wp2_with fail
  refine (sGate_any _ _ _ _ _ _ _ _ _ _ _ _ h hr0 hr1 hn).mono ?_
  rintro e w1 ⟨rfl, ga1, gc1, m1, g1⟩
  go_wp2_with fail
  go_ret
  exact ⟨rfl, _, _, m1, g1⟩
theorem sAnd_any (w : World) (B mb : Nat) (i0 i1 a b : Int) (ga : Option Addr) (gn gc : Nat) (gs : List Int) (h : Mk B w mb i0 i1 ga gn gc gs) (hr0 : inB i0 0 20 = true) (hr1 : inB i1 0 20 = true) (hn : gn ≤ 400) :
    Calls Try.prog 113 #[.pointer (some ⟨mb, 0, none⟩), .int .i64 a, .int .i64 b] w fun e w' => e = .returned (.int .i64 (i0 + i1 + gn)) ∧ ∃ ga' gc', Mk B w' mb i0 i1 ga' (gn + 1) gc' (gs ++ [1, a, b]) ∧ Grew w w' ga gc mb := by
  go_enter Try.func113, Try.ntmps113
  go_wp2_with fail
  refine (sGate_any _ _ _ _ _ _ _ _ _ _ _ _ h hr0 hr1 hn).mono ?_
  rintro e w1 ⟨rfl, ga1, gc1, m1, g1⟩
  go_wp2_with fail
  go_ret
  exact ⟨rfl, _, _, m1, g1⟩
theorem sNot_any (w : World) (B mb : Nat) (i0 i1 a : Int) (ga : Option Addr) (gn gc : Nat) (gs : List Int) (h : Mk B w mb i0 i1 ga gn gc gs) (hr0 : inB i0 0 20 = true) (hr1 : inB i1 0 20 = true) (hn : gn ≤ 400) :
    Calls Try.prog 116 #[.pointer (some ⟨mb, 0, none⟩), .int .i64 a] w fun e w' => e = .returned (.int .i64 (i0 + i1 + gn)) ∧ ∃ ga' gc', Mk B w' mb i0 i1 ga' (gn + 1) gc' (gs ++ [2, a, 0]) ∧ Grew w w' ga gc mb := by
  go_enter Try.func116, Try.ntmps116
  go_wp2_with fail
  refine (sGate_any _ _ _ _ _ _ _ _ _ _ _ _ h hr0 hr1 hn).mono ?_
  rintro e w1 ⟨rfl, ga1, gc1, m1, g1⟩
  go_wp2_with fail
  go_ret
  exact ⟨rfl, _, _, m1, g1⟩
theorem sOne_any (w : World) (B mb : Nat) (i0 i1 : Int) (ga : Option Addr) (gn gc : Nat) (gs : List Int) (h : Mk B w mb i0 i1 ga gn gc gs) (hr0 : inB i0 0 20 = true) (hr1 : inB i1 0 20 = true) (hn : gn ≤ 400) :
    Calls Try.prog 115 #[.pointer (some ⟨mb, 0, none⟩)] w fun e w' => e = .returned (.int .i64 (i0 + i1 + gn)) ∧ ∃ ga' gc', Mk B w' mb i0 i1 ga' (gn + 1) gc' (gs ++ [3, 0, 0]) ∧ Grew w w' ga gc mb := by
  go_enter Try.func115, Try.ntmps115
  go_wp2_with fail
  refine (sGate_any _ _ _ _ _ _ _ _ _ _ _ _ h hr0 hr1 hn).mono ?_
  rintro e w1 ⟨rfl, ga1, gc1, m1, g1⟩
  go_wp2_with fail
  go_ret
  exact ⟨rfl, _, _, m1, g1⟩
/-- What the two gates of a constant leave. -/
def RetZ (z : Int) (B : Nat) (w : World) (mb : Nat) (i0 i1 : Int) (gn : Nat) (gs : List Int) (e : Ending) (w' : World) : Prop :=
  e = .returned (.int .i64 (z + 1)) ∧ ∃ ga' gc', Mk B w' mb i0 i1 ga' (gn + 2) gc' (gs ++ [3, 0, 0, 2, z, 0]) ∧ Below B w w'
theorem iZero_any (w : World) (B mb : Nat) (i0 i1 : Int) (ga : Option Addr) (gn gc : Nat) (gs : List Int) (h : Mk B w mb i0 i1 ga gn gc gs) (hr0 : inB i0 0 20 = true) (hr1 : inB i1 0 20 = true) (hn : gn ≤ 300) :
    Calls Try.prog 117 #[.pointer (some ⟨mb, 0, none⟩)] w (RetZ (i0 + i1 + gn) B w mb i0 i1 gn gs) := by
  go_enter Try.func117, Try.ntmps117
  go_wp2_with fail
  refine (iGate_any _ _ _ _ _ _ _ _ _ _ _ _ h hr0 hr1 (by omega)).mono ?_
  rintro e w1 ⟨rfl, ga1, gc1, m1, g1⟩
  go_wp2_with fail
  refine (iNot_any _ _ _ _ _ _ _ _ _ _ m1 hr0 hr1 (by omega)).mono ?_
  rintro e w2 ⟨rfl, ga2, gc2, m2, g2⟩
  go_wp2_with fail
  go_ret
  exact ⟨ret_int (by omega), _, _, by simpa using m2, (grew_below h g1).trans (grew_below m1 g2)⟩
/-- The wires of a number whose bits are bs, z the wire of 0. -/
def constL (z : Int) (bs : List Int) : List Int := bs.map fun b => z - b
theorem constL_step {z : Int} {bs : List Int} {k : Nat} {x : Int} (h : bs[k]? = some x) : constL z (bs.take (k + 1)) = constL z (bs.take k) ++ [z - x] := by
  rw [constL, constL, List.take_add_one, h]; simp
/-- The wires of a number back. -/
def RetW (bs : List Int) (z : Int) (B : Nat) (w : World) (mb : Nat) (i0 i1 : Int) (gn : Nat) (gs : List Int) (e : Ending) (w' : World) : Prop :=
  ∃ ao n c ga' gc', e = .returned (.slice ao n c) ∧ OwnI (mb + 1) w' ao n c (constL (z + 1) bs) ∧ Mk B w' mb i0 i1 ga' (gn + 2) gc' (gs ++ [3, 0, 0, 2, z, 0]) ∧ (∀ k l, rowOf ga' gc' = some k → rowOf ao c = some l → k ≠ l) ∧ Below B w w'
theorem Mk.below {B mb C : Nat} {w w' : World} {i0 i1 : Int} {ga : Option Addr} {gn gc : Nat} {gs : List Int} (h : Mk B w mb i0 i1 ga gn gc gs) (hb : Below C w w') (hC : w.heap.size ≤ C) : Mk B w' mb i0 i1 ga gn gc gs := by
  obtain ⟨⟨h1, h2⟩, ⟨c0, c1, c2, c3⟩, hf, hown⟩ := h
  have hm : mb < C := by omega
  exact ⟨⟨h1, Nat.lt_of_lt_of_le h2 hb.size⟩, ⟨(hb.cell (p := ⟨mb, 0, none⟩) hm).trans c0, (hb.cell (p := ⟨mb, 1, none⟩) hm).trans c1, (hb.cell (p := ⟨mb, 2, none⟩) hm).trans c2, (hb.cell (p := ⟨mb, 3, none⟩) hm).trans c3⟩, fun j => (hb.frozen (p := ⟨mb, j, none⟩) hm).trans (hf j), hown.below hb hC⟩
set_option maxHeartbeats 1600000 in
theorem iConst_any (w : World) (B mb : Nat) (i0 i1 : Int) (ga : Option Addr) (gn gc v wd : Nat) (gs : List Int) (h : Mk B w mb i0 i1 ga gn gc gs) (hr0 : inB i0 0 20 = true) (hr1 : inB i1 0 20 = true) (hn : gn ≤ 300) (hv : v ≤ 1000000) (hwd : wd ≤ 16) :
    Calls Try.prog 79 #[.pointer (some ⟨mb, 0, none⟩), .int .i64 v, .int .i64 wd] w (RetW (btOfL v wd) (i0 + i1 + gn) B w mb i0 i1 gn gs) := by
  have q0 := inB_iff.1 hr0
  have q1 := inB_iff.1 hr1
  go_enter Try.func79, Try.ntmps79
  go_wp2_with fail
  refine (iZero_any _ _ _ _ _ _ _ _ _ h hr0 hr1 hn).mono ?_
  rintro e w1 ⟨rfl, ga1, gc1, m1, hb1⟩
  obtain ⟨W2, hW2⟩ : ∃ W2, W2 = w1.alloc (.cells #[] 3) := ⟨_, rfl⟩
  have hal : Below w1.heap.size w1 W2 := by rw [hW2]; exact (Below.refl _ _).alloc (Nat.le_refl _) _
  have HW2 := Lib.hid hW2
  clear hW2
  go_wp2_with (rw [← HW2.out])
  refine (bitsOf_any _ _ _ (by omega) (by omega)).mono ?_
  rintro e w3 ⟨a3, n3, c3, rfl, ho3, hb3⟩
  have hb13 : Below w1.heap.size w1 w3 := hal.trans (hb3.mono hal.size)
  have hbs := Lib.hid (btOfL_bits v wd)
  have hl3 := Lib.hid (ho3.1.symm.trans (btOfL_length v wd))
  have hI := ho3.ints
  have hn3 : n3 ≤ 16 := by rw [hl3.out]; exact hwd
  have hl3' := Lib.hid ho3.1
  obtain ⟨bs, hbse⟩ : ∃ bs, bs = btOfL v wd := ⟨_, rfl⟩
  rw [← hbse] at hI hbs hl3' ⊢
  obtain ⟨z, hz⟩ : ∃ z, z = i0 + i1 + (gn : Int) := ⟨_, rfl⟩
  rw [← hz] at m1 ⊢
  have hz0 : 0 ≤ z ∧ z ≤ 1000 := by omega
  have HZ := Lib.hid hz
  have HBE := Lib.hid hbse
  clear hbse hz ho3
  go_wp2_with fail
  go_loopw [8, 18] (fun out i wr => ∃ (k : Nat) (co : Option Addr) (cap : Nat), k ≤ n3 ∧ i = .int .i64 k ∧ out = .slice co k cap ∧ OwnI w3.heap.size wr co k cap (constL (z + 1) (bs.take k)) ∧ Below w3.heap.size w3 wr) (fun _ i _ => n3 - (intOf i).toNat)
  case atStart => exact ⟨0, _, _, Nat.zero_le _, rfl, rfl, by simpa [constL] using OwnI.nil _ _ _, Below.refl _ _⟩
  case round =>
    obtain ⟨k, co, cap, hk, rfl, rfl, hout, hbel⟩ := hrel
    by_cases hlt : k < n3
    · obtain ⟨b1, o1, x, rfl, hbb, hx, q1⟩ := (hI.below hbel (Nat.le_refl _)).at hlt
      have hx01 := allIn_iff.1 hbs.out x (List.mem_of_getElem? hx)
      have HS := Lib.hid (constL_step (z := z + 1) hx)
      clear hx
      go_wp2_with (at_builtin; refine wpList_append_i rfl _ _ rfl w3.heap.size _ _ _ _ _ rfl (by first | rfl | (simp; rfl)) hout (by omega) hbel.size ?_; intro ao' cap' w4 hown4 hg4)
      have hbr4 := below_append hbel hout.2.2 hg4 hbel.size
      go_roundw
      case rel => exact ⟨k + 1, ao', cap', by omega, by go_num, rfl, by rw [HS.out]; exact hown4, hbr4⟩
      case measure => simp [intOf] <;> omega
    · obtain rfl : k = n3 := by omega
      rw [List.take_of_length_le (by rw [hl3'.out]; exact Nat.le_refl _)] at hout
      have hmW := m1.below (hb13.trans (hbel.mono hb13.size)) (Nat.le_refl _)
      go_wp2_with fail
      go_ret
      rw [← HBE.out, ← HZ.out]
      refine ⟨_, _, _, _, _, rfl, hout.up (by have := hb13.size; have := m1.1.2; omega), hmW, fun p q hp hq e => ?_, hb1.trans ((hb13.trans (hbel.mono hb13.size)).mono (by have := m1.1; omega))⟩
      have e1 := m1.2.2.2.rowLt p hp
      have e2 := hout.rowLt q hq
      have e3 := hb13.size
      omega
set_option maxHeartbeats 1600000 in
theorem sConst_any (w : World) (B mb : Nat) (i0 i1 : Int) (ga : Option Addr) (gn gc v wd : Nat) (gs : List Int) (h : Mk B w mb i0 i1 ga gn gc gs) (hr0 : inB i0 0 20 = true) (hr1 : inB i1 0 20 = true) (hn : gn ≤ 300) (hv : v ≤ 1000000) (hwd : wd ≤ 16) :
    Calls Try.prog 78 #[.pointer (some ⟨mb, 0, none⟩), .int .i64 v, .int .i64 wd] w (RetW (btOfL v wd) (i0 + i1 + gn) B w mb i0 i1 gn gs) := by
  have q0 := inB_iff.1 hr0
  have q1 := inB_iff.1 hr1
  go_enter Try.func78, Try.ntmps78
  go_wp2_with fail
  refine (sOne_any _ _ _ _ _ _ _ _ _ h hr0 hr1 (by omega)).mono ?_
  rintro e w1 ⟨rfl, ga1, gc1, m1, g1⟩
  go_wp2_with fail
  refine (sNot_any _ _ _ _ _ _ _ _ _ _ m1 hr0 hr1 (by omega)).mono ?_
  rintro e w2 ⟨rfl, ga2, gc2, m2, g2⟩
  have hb2 := (grew_below h g1).trans (grew_below m1 g2)
  rw [List.append_assoc] at m2
  go_wp2_with fail
  refine (btOf_any _ _ _ (by omega) (by omega)).mono ?_
  rintro e w3 ⟨a3, n3, c3, rfl, ho3, hb3⟩
  have hbs := Lib.hid (btOfL_bits v wd)
  have hl3 := Lib.hid (ho3.1.symm.trans (btOfL_length v wd))
  have hI := ho3.ints
  have hn3 : n3 ≤ 16 := by rw [hl3.out]; exact hwd
  have hl3' := Lib.hid ho3.1
  obtain ⟨bs, hbse⟩ : ∃ bs, bs = btOfL v wd := ⟨_, rfl⟩
  rw [← hbse] at hI hbs hl3' ⊢
  obtain ⟨z, hz⟩ : ∃ z, z = i0 + i1 + (gn : Int) := ⟨_, rfl⟩
  have hz1 : i0 + i1 + ((gn : Int) + 1) = z + 1 := by omega
  rw [hz1]
  rw [← hz] at m2 ⊢
  have hz0 : 0 ≤ z ∧ z ≤ 1000 := by omega
  have HZ := Lib.hid hz
  have HBE := Lib.hid hbse
  clear hbse hz hz1 ho3
  go_wp2_with fail
  go_loopw [9, 21] (fun out i wr => ∃ (k : Nat) (co : Option Addr) (cap : Nat), k ≤ n3 ∧ i = .int .i64 k ∧ out = .slice co k cap ∧ OwnI w3.heap.size wr co k cap (constL (z + 1) (bs.take k)) ∧ Below w3.heap.size w3 wr) (fun _ i _ => n3 - (intOf i).toNat)
  case atStart => exact ⟨0, _, _, Nat.zero_le _, rfl, rfl, by simpa [constL] using OwnI.nil _ _ _, Below.refl _ _⟩
  case round =>
    obtain ⟨k, co, cap, hk, rfl, rfl, hout, hbel⟩ := hrel
    by_cases hlt : k < n3
    · obtain ⟨b1, o1, x, rfl, hbb, hx, q1⟩ := (hI.below hbel (Nat.le_refl _)).at hlt
      have hx01 := allIn_iff.1 hbs.out x (List.mem_of_getElem? hx)
      have HS := Lib.hid (constL_step (z := z + 1) hx)
      clear hx
      rcases (show x = 0 ∨ x = 1 by omega) with rfl | rfl
      · have HS2 : Hid (constL (z + 1) (bs.take (k + 1)) = constL (z + 1) (bs.take k) ++ [z + 1]) := by show _ = _; rw [HS.out]; simp
        go_wp2_with (at_builtin; refine wpList_append_i rfl _ _ rfl w3.heap.size _ _ _ _ _ rfl (by first | rfl | (simp; rfl)) hout (by omega) hbel.size ?_; intro ao' cap' w4 hown4 hg4)
        have hbr4 := below_append hbel hout.2.2 hg4 hbel.size
        go_roundw
        case rel => exact ⟨k + 1, ao', cap', by omega, by go_num, rfl, by rw [HS2.out]; exact hown4, hbr4⟩
        case measure => simp [intOf] <;> omega
      · have HS2 : Hid (constL (z + 1) (bs.take (k + 1)) = constL (z + 1) (bs.take k) ++ [z]) := by show _ = _; rw [HS.out]; congr 2; omega
        go_wp2_with (at_builtin; refine wpList_append_i rfl _ _ rfl w3.heap.size _ _ _ _ _ rfl (by first | rfl | (simp; rfl)) hout (by omega) hbel.size ?_; intro ao' cap' w4 hown4 hg4)
        have hbr4 := below_append hbel hout.2.2 hg4 hbel.size
        go_roundw
        case rel => exact ⟨k + 1, ao', cap', by omega, by go_num, rfl, by rw [HS2.out]; exact hown4, hbr4⟩
        case measure => simp [intOf] <;> omega
    · obtain rfl : k = n3 := by omega
      rw [List.take_of_length_le (by rw [hl3'.out]; exact Nat.le_refl _)] at hout
      have hb23 := hb3.trans (hbel.mono hb3.size)
      have hmW := m2.below hb23 (Nat.le_refl _)
      go_wp2_with fail
      go_ret
      rw [← HBE.out, ← HZ.out]
      refine ⟨_, _, _, _, _, rfl, hout.up (by have := hb3.size; have := m2.1.2; omega), hmW, fun p q hp hq e => ?_, hb2.trans (hb23.mono (by have := m2.1; omega))⟩
      have e1 := m2.2.2.2.rowLt p hp
      have e2 := hout.rowLt q hq
      have e3 := hb3.size
      omega
end Go.Proofs.Ytbdccgodamkljaa
