/-
  Makers of circuits: a gate more.
-/
import Derived.Test.YtbdccgodamkljaaUsed3
import Derived.Test.YtbdccgodamkljaaCirc9
namespace Go.Proofs.Ytbdccgodamkljaa
open Go.RowKit
set_option linter.unusedVariables false
set_option linter.unusedSimpArgs false

/-- A maker at block mb: its circuit has these gates and no results yet. -/
def Mk (B : Nat) (W : World) (mb : Nat) (i0 i1 : Int) (ga : Option Addr) (gn gc : Nat) (gs : List Int) : Prop :=
  (B ≤ mb ∧ mb < W.heap.size) ∧ (W.cell? ⟨mb, 0, none⟩ = some (.int .i64 i0) ∧ W.cell? ⟨mb, 1, none⟩ = some (.int .i64 i1) ∧ W.cell? ⟨mb, 2, none⟩ = some (.slice ga gn gc) ∧ W.cell? ⟨mb, 3, none⟩ = some (.slice none 0 0)) ∧
  (∀ j, W.frozen? ⟨mb, j, none⟩ = false) ∧ OwnF 3 68 (mb + 1) W ga gn gc gs
theorem grown_set (w : World) (p : Addr) (v : Value) : w.grownBy (w.setCell p v) (some p.block) := by
  have hb := (Below.refl 0 w).setCell (Nat.zero_le _) v (p := p)
  exact ⟨hb.os, hb.tape, hb.output, hb.size, fun k hk hne => Below.heap_setCell w p v k (fun e => hne (by rw [e]))⟩
theorem grown_below {w u v : World} {row : Option Nat} (h : w.grownBy u row) (hb : Below u.heap.size u v) : w.grownBy v row :=
  ⟨hb.os.trans h.os, hb.tape.trans h.tape, hb.output.trans h.output, Nat.le_trans h.size hb.size, fun k hk hne => (hb.block k (Nat.lt_of_lt_of_le hk h.size)).trans (h.block k hk hne)⟩
/-- What a call that adds gates does to the world: a maker's row and its block turn, nothing else. -/
def Grew (w w' : World) (ga : Option Addr) (gc mb : Nat) : Prop := ∃ u, w.grownBy u (rowOf ga gc) ∧ u.grownBy w' (some mb)
theorem mk_set {B mb : Nat} {w u w' : World} {i0 i1 : Int} {ga ga' : Option Addr} {gn gc gc' : Nat} {gs gs' : List Int} (h : Mk B w mb i0 i1 ga gn gc gs) (hu : w.grownBy u (rowOf ga gc)) (ho : OwnF 3 68 (mb + 1) u ga' (gn + 1) gc' gs')
    (hb : Below (u.setCell ⟨mb, 2, none⟩ (.slice ga' (gn + 1) gc')).heap.size (u.setCell ⟨mb, 2, none⟩ (.slice ga' (gn + 1) gc')) w') : Mk B w' mb i0 i1 ga' (gn + 1) gc' gs' ∧ u.grownBy w' (some mb) := by
  obtain ⟨⟨h1, h2⟩, ⟨c0, c1, c2, c3⟩, hf, hown⟩ := h
  have hn : some mb ≠ rowOf ga gc := fun e => by have := hown.rowLt mb e.symm; omega
  have hsz : mb < u.heap.size := Nat.lt_of_lt_of_le h2 hu.size
  have hg := grown_set u ⟨mb, 2, none⟩ (.slice ga' (gn + 1) gc')
  have hszs : mb < (u.setCell ⟨mb, 2, none⟩ (.slice ga' (gn + 1) gc')).heap.size := Nat.lt_of_lt_of_le hsz hg.size
  have hcell : ∀ j, j ≠ 2 → w'.cell? ⟨mb, j, none⟩ = u.cell? ⟨mb, j, none⟩ := fun j hj => (hb.cell (p := ⟨mb, j, none⟩) hszs).trans (World.cell?_setCell_other u ⟨mb, 2, none⟩ ⟨mb, j, none⟩ _ (by intro e; simp only [Addr.mk.injEq, true_and, and_true] at e; exact hj e.symm))
  refine ⟨⟨⟨h1, Nat.lt_of_lt_of_le hszs hb.size⟩, ⟨(hcell 0 (by omega)).trans (hu.cell c0 hn), (hcell 1 (by omega)).trans (hu.cell c1 hn), ?_, (hcell 3 (by omega)).trans (hu.cell c3 hn)⟩, ?_, ?_⟩, grown_below hg hb⟩
  · exact (hb.cell (p := ⟨mb, 2, none⟩) hszs).trans (World.cell?_setCell_same u ⟨mb, 2, none⟩ _ (hu.cell c2 hn))
  · intro j
    rw [hb.frozen (p := ⟨mb, j, none⟩) hszs]
    have : (u.setCell ⟨mb, 2, none⟩ (.slice ga' (gn + 1) gc')).frozen? ⟨mb, j, none⟩ = u.frozen? ⟨mb, j, none⟩ := by simp [go_sem]
    rw [this, World.frozen?_of_block (w := w) (hu.block mb h2 hn), hf j]
  · exact (ho.other hg (fun k l e1 e2 => by simp at e2; have := ho.rowLt k e1; omega)).below hb (Nat.le_refl _)
set_option maxHeartbeats 1600000 in
theorem iGate_any (w : World) (B mb : Nat) (i0 i1 k a b : Int) (ga : Option Addr) (gn gc : Nat) (gs : List Int) (h : Mk B w mb i0 i1 ga gn gc gs) (hr0 : inB i0 0 20 = true) (hr1 : inB i1 0 20 = true) (hn : gn ≤ 400) :
    Calls Try.prog 114 #[.pointer (some ⟨mb, 0, none⟩), .int .i64 k, .int .i64 a, .int .i64 b] w fun e w' => e = .returned (.int .i64 (i0 + i1 + gn)) ∧ ∃ ga' gc', Mk B w' mb i0 i1 ga' (gn + 1) gc' (gs ++ [k, a, b]) ∧ Grew w w' ga gc mb := by
  have HM := Lib.hid h
  have hR0 := inB_iff.1 hr0
  have hR1 := inB_iff.1 hr1
  obtain ⟨⟨h1, h2⟩, ⟨c0, c1, c2, c3⟩, hf, hown⟩ := h
  have hB : mb + 1 ≤ w.heap.size := by omega
  have hn' : some mb ≠ rowOf ga gc := fun e => by have := hown.rowLt mb e.symm; omega
  have HF := Lib.hid hf
  clear hf
  have hal : Below w.heap.size w (w.alloc (.cells #[.int .i64 k, .int .i64 a, .int .i64 b] 68)) := (Below.refl _ _).alloc (Nat.le_refl _) _
  go_enter Try.func114, Try.ntmps114
  go_wp2_with (at_builtin; refine wpList_append_Gate rfl _ _ rfl (mb + 1) _ _ _ _ _ _ _ rfl rfl hown (by omega) hB ?_; intro ao' cap' u hown4 hg4; have d0 := hg4.cell c0 hn'; have d1 := hg4.cell c1 hn'; have d2 := hg4.cell c2 hn'; have d3 := hg4.cell c3 hn'; have df : u.frozen? ⟨mb, 2, none⟩ = false := (World.frozen?_of_block (w := w) (hg4.block mb h2 hn')).trans (HF.out 2))
  refine (wires_any _ _ _ _ _ _ _ _ _ hr0 hr1 (by omega)).mono ?_
  rintro e w5 ⟨rfl, hb5⟩
  obtain ⟨m1, m2⟩ := mk_set HM.out hg4 hown4 hb5
  have hnn : (gn : Int) + 1 ≤ 401 := by omega
  go_wp2_with fail
  go_ret
  exact ⟨ret_int (by omega), _, _, m1, u, hg4, m2⟩
set_option maxHeartbeats 1600000 in
theorem sGate_any (w : World) (B mb : Nat) (i0 i1 k a b : Int) (ga : Option Addr) (gn gc : Nat) (gs : List Int) (h : Mk B w mb i0 i1 ga gn gc gs) (hr0 : inB i0 0 20 = true) (hr1 : inB i1 0 20 = true) (hn : gn ≤ 400) :
    Calls Try.prog 126 #[.pointer (some ⟨mb, 0, none⟩), .int .i64 k, .int .i64 a, .int .i64 b] w fun e w' => e = .returned (.int .i64 (i0 + i1 + gn)) ∧ ∃ ga' gc', Mk B w' mb i0 i1 ga' (gn + 1) gc' (gs ++ [k, a, b]) ∧ Grew w w' ga gc mb := by
  have HM := Lib.hid h
  have hR0 := inB_iff.1 hr0
  have hR1 := inB_iff.1 hr1
  obtain ⟨⟨h1, h2⟩, ⟨c0, c1, c2, c3⟩, hf, hown⟩ := h
  have hB : mb + 1 ≤ w.heap.size := by omega
  have hn' : some mb ≠ rowOf ga gc := fun e => by have := hown.rowLt mb e.symm; omega
  have HF := Lib.hid hf
  clear hf
  have hal : Below w.heap.size w (w.alloc (.cells #[.int .i64 k, .int .i64 a, .int .i64 b] 68)) := (Below.refl _ _).alloc (Nat.le_refl _) _
  go_enter Try.func126, Try.ntmps126
  go_wp2_with (at_builtin; refine wpList_append_Gate rfl _ _ rfl (mb + 1) _ _ _ _ _ _ _ rfl rfl hown (by omega) hB ?_; intro ao' cap' u hown4 hg4; have d0 := hg4.cell c0 hn'; have d1 := hg4.cell c1 hn'; have d2 := hg4.cell c2 hn'; have d3 := hg4.cell c3 hn'; have df : u.frozen? ⟨mb, 2, none⟩ = false := (World.frozen?_of_block (w := w) (hg4.block mb h2 hn')).trans (HF.out 2))
  refine (ciWires_any _ _ _ _ _ _ _ _ _ hr0 hr1 (by omega)).mono ?_
  rintro e w5 ⟨rfl, hb5⟩
  obtain ⟨m1, m2⟩ := mk_set HM.out hg4 hown4 hb5
  have hnn : (gn : Int) + 1 ≤ 401 := by omega
  go_wp2_with fail
  go_ret
  exact ⟨ret_int (by omega), _, _, m1, u, hg4, m2⟩
def RetG (n : Int) (B : Nat) (w : World) (mb : Nat) (i0 i1 : Int) (ga : Option Addr) (gn gc k : Nat) (gs : List Int) (e : Ending) (w' : World) : Prop :=
  e = .returned (.int .i64 n) ∧ ∃ ga' gc', Mk B w' mb i0 i1 ga' (gn + k) gc' gs ∧ Grew w w' ga gc mb
end Go.Proofs.Ytbdccgodamkljaa
