/-
  Programs read back: a line out of its words, by the reference (printed by XPr2.py).
-/
import Derived.Test.YtdlddkgmjpmenaaGreatDoorHPq
import Derived.StillTailTactics
import Derived.Deep.RegionHeld3
namespace Go.Proofs.YtdlddkgmjpmenaaGreatDoor
open Go.RowKit
set_option linter.unusedVariables false
set_option linter.unusedSimpArgs false

theorem stores7 {W : World} {x : Nat} {e : TypeId} {a0 a1 a2 a3 a4 a5 a6 : Value} (h : W.heap[x]? = some (.cells #[a0, a1, a2, a3, a4, a5, a6] e (0, 0))) (v0 v1 v2 v3 v4 v5 v6 : Value) :
    ((W.setCell ⟨x, 0, none⟩ v0).cell? ⟨x, 0, none⟩ = some v0 ∧ ((W.setCell ⟨x, 0, none⟩ v0).setCell ⟨x, 1, none⟩ v1).cell? ⟨x, 1, none⟩ = some v1 ∧ (((W.setCell ⟨x, 0, none⟩ v0).setCell ⟨x, 1, none⟩ v1).setCell ⟨x, 2, none⟩ v2).cell? ⟨x, 2, none⟩ = some v2 ∧ ((((W.setCell ⟨x, 0, none⟩ v0).setCell ⟨x, 1, none⟩ v1).setCell ⟨x, 2, none⟩ v2).setCell ⟨x, 3, none⟩ v3).cell? ⟨x, 3, none⟩ = some v3 ∧ (((((W.setCell ⟨x, 0, none⟩ v0).setCell ⟨x, 1, none⟩ v1).setCell ⟨x, 2, none⟩ v2).setCell ⟨x, 3, none⟩ v3).setCell ⟨x, 4, none⟩ v4).cell? ⟨x, 4, none⟩ = some v4 ∧ ((((((W.setCell ⟨x, 0, none⟩ v0).setCell ⟨x, 1, none⟩ v1).setCell ⟨x, 2, none⟩ v2).setCell ⟨x, 3, none⟩ v3).setCell ⟨x, 4, none⟩ v4).setCell ⟨x, 5, none⟩ v5).cell? ⟨x, 5, none⟩ = some v5 ∧ (((((((W.setCell ⟨x, 0, none⟩ v0).setCell ⟨x, 1, none⟩ v1).setCell ⟨x, 2, none⟩ v2).setCell ⟨x, 3, none⟩ v3).setCell ⟨x, 4, none⟩ v4).setCell ⟨x, 5, none⟩ v5).setCell ⟨x, 6, none⟩ v6).cell? ⟨x, 6, none⟩ = some v6) ∧ (∀ C, C ≤ x → Below C W (((((((W.setCell ⟨x, 0, none⟩ v0).setCell ⟨x, 1, none⟩ v1).setCell ⟨x, 2, none⟩ v2).setCell ⟨x, 3, none⟩ v3).setCell ⟨x, 4, none⟩ v4).setCell ⟨x, 5, none⟩ v5).setCell ⟨x, 6, none⟩ v6)) := by
  have g0 : (W.setCell ⟨x, 0, none⟩ v0).heap[x]? = some (.cells #[v0, a1, a2, a3, a4, a5, a6] e (0, 0)) := by
    rw [heap_setCell_same _ x 0 _ _ _ h]; rfl
  have g1 : ((W.setCell ⟨x, 0, none⟩ v0).setCell ⟨x, 1, none⟩ v1).heap[x]? = some (.cells #[v0, v1, a2, a3, a4, a5, a6] e (0, 0)) := by
    rw [heap_setCell_same _ x 1 _ _ _ g0]; rfl
  have g2 : (((W.setCell ⟨x, 0, none⟩ v0).setCell ⟨x, 1, none⟩ v1).setCell ⟨x, 2, none⟩ v2).heap[x]? = some (.cells #[v0, v1, v2, a3, a4, a5, a6] e (0, 0)) := by
    rw [heap_setCell_same _ x 2 _ _ _ g1]; rfl
  have g3 : ((((W.setCell ⟨x, 0, none⟩ v0).setCell ⟨x, 1, none⟩ v1).setCell ⟨x, 2, none⟩ v2).setCell ⟨x, 3, none⟩ v3).heap[x]? = some (.cells #[v0, v1, v2, v3, a4, a5, a6] e (0, 0)) := by
    rw [heap_setCell_same _ x 3 _ _ _ g2]; rfl
  have g4 : (((((W.setCell ⟨x, 0, none⟩ v0).setCell ⟨x, 1, none⟩ v1).setCell ⟨x, 2, none⟩ v2).setCell ⟨x, 3, none⟩ v3).setCell ⟨x, 4, none⟩ v4).heap[x]? = some (.cells #[v0, v1, v2, v3, v4, a5, a6] e (0, 0)) := by
    rw [heap_setCell_same _ x 4 _ _ _ g3]; rfl
  have g5 : ((((((W.setCell ⟨x, 0, none⟩ v0).setCell ⟨x, 1, none⟩ v1).setCell ⟨x, 2, none⟩ v2).setCell ⟨x, 3, none⟩ v3).setCell ⟨x, 4, none⟩ v4).setCell ⟨x, 5, none⟩ v5).heap[x]? = some (.cells #[v0, v1, v2, v3, v4, v5, a6] e (0, 0)) := by
    rw [heap_setCell_same _ x 5 _ _ _ g4]; rfl
  have g6 : (((((((W.setCell ⟨x, 0, none⟩ v0).setCell ⟨x, 1, none⟩ v1).setCell ⟨x, 2, none⟩ v2).setCell ⟨x, 3, none⟩ v3).setCell ⟨x, 4, none⟩ v4).setCell ⟨x, 5, none⟩ v5).setCell ⟨x, 6, none⟩ v6).heap[x]? = some (.cells #[v0, v1, v2, v3, v4, v5, v6] e (0, 0)) := by
    rw [heap_setCell_same _ x 6 _ _ _ g5]; rfl
  refine ⟨⟨?_, ?_, ?_, ?_, ?_, ?_, ?_⟩, fun C hC => ?_⟩
  · rw [cell_of_row _ x 0 _ _ (0, 0) g0]; rfl
  · rw [cell_of_row _ x 1 _ _ (0, 0) g1]; rfl
  · rw [cell_of_row _ x 2 _ _ (0, 0) g2]; rfl
  · rw [cell_of_row _ x 3 _ _ (0, 0) g3]; rfl
  · rw [cell_of_row _ x 4 _ _ (0, 0) g4]; rfl
  · rw [cell_of_row _ x 5 _ _ (0, 0) g5]; rfl
  · rw [cell_of_row _ x 6 _ _ (0, 0) g6]; rfl
  · exact (((((((Below.refl C W).setCell (p := ⟨x, 0, none⟩) hC v0).setCell (p := ⟨x, 1, none⟩) hC v1).setCell (p := ⟨x, 2, none⟩) hC v2).setCell (p := ⟨x, 3, none⟩) hC v3).setCell (p := ⟨x, 4, none⟩) hC v4).setCell (p := ⟨x, 5, none⟩) hC v5).setCell (p := ⟨x, 6, none⟩) hC v6
theorem sevenZ {w : World} {x : Nat} {e : TypeId} {v0 v1 v2 v3 v4 v5 v6 : Value} (h : w.heap[x]? = some (.cells #[v0, v1, v2, v3, v4, v5, v6] e (0, 0))) :
    (w.cell? ⟨x, 0, none⟩ = some v0 ∧ w.cell? ⟨x, 1, none⟩ = some v1 ∧ w.cell? ⟨x, 2, none⟩ = some v2 ∧ w.cell? ⟨x, 3, none⟩ = some v3 ∧ w.cell? ⟨x, 4, none⟩ = some v4 ∧ w.cell? ⟨x, 5, none⟩ = some v5 ∧ w.cell? ⟨x, 6, none⟩ = some v6) ∧ (∀ j, w.frozen? ⟨x, j, none⟩ = false) := by
  have c := fun j => cell_of_row w x j _ _ (0, 0) h
  have f := fun j => frozen_of_row w x j _ _ h
  refine ⟨⟨?_, ?_, ?_, ?_, ?_, ?_, ?_⟩, f⟩ <;> rw [c] <;> rfl
theorem read_still (w : World) (s : ByteArray) : Calls Tryz.prog 86 #[.string s] w fun e w' => e = .returned (.int .i64 (readF s)) ∧ w' = w :=
  (l1Read_any w s).mono fun _ _ ⟨h1, h2⟩ => ⟨h1, h2.symm⟩
/-- A row of texts. -/
def RowS (w : World) (po : Option Addr) : Prop := ∀ p, po = some p → ∃ cs q, w.heap[p.block]? = some (.cells cs 9 q)
def RetLr (x : Ln) (w : World) (e : Ending) (w' : World) : Prop := ∃ po pc, e = .returned (lineV x po pc) ∧ Strs w' w'.heap.size po x.parts.length x.parts ∧ Below w.heap.size w w' ∧ x.parts.length ≤ pc ∧ RowS w' po
theorem RetLr.of {x X : Ln} {w w' : World} {po : Option Addr} {pc : Nat} (hx : x = X) (hs : Strs w' w'.heap.size po X.parts.length X.parts) (hb : Below w.heap.size w w') (hp : X.parts.length ≤ pc) (hl : RowS w' po) : RetLr x w (.returned (lineV X po pc)) w' := by
  subst hx; exact ⟨po, pc, rfl, hs, hb, hp, hl⟩
theorem strs_none (w : World) (B : Nat) (ao : Option Addr) : Strs w B ao 0 [] := ⟨rfl, by decide, .inl rfl⟩
theorem lineOf_zero {rd : ByteArray → Int} {a : ByteArray} {ws : List ByteArray} (h1 : a = ⟨#[105, 110, 112, 117, 116]⟩ → ws.length ≠ 3) (h2 : a = ⟨#[99, 111, 110, 115, 116]⟩ → ws.length ≠ 3) (h3 : a = ⟨#[108, 101, 116]⟩ → ws.length ≠ 4) (h4 : a = ⟨#[110, 111, 116]⟩ → ws.length ≠ 2) (h5 : a = ⟨#[112, 105, 99, 107]⟩ → ws.length ≠ 4) (h6 : a = ⟨#[111, 117, 116]⟩ → ws.length ≠ 1) : lineOf rd (a :: ws) = lnZ := by
  match ws, h1, h2, h3, h4, h5, h6 with
  | [], _, _, _, _, _, _ => rfl
  | [b], _, _, _, _, _, h6 => simp only [lineOf]; rw [if_neg]; intro e; exact h6 (eq_of_beq e) rfl
  | [b, c], _, _, _, h4, _, _ => simp only [lineOf]; rw [if_neg]; intro e; exact h4 (eq_of_beq e) rfl
  | [b, c, d], h1, h2, _, _, _, _ => simp only [lineOf]; rw [if_neg (fun e => h1 (eq_of_beq e) rfl), if_neg (fun e => h2 (eq_of_beq e) rfl)]
  | [b, c, d, f], _, _, h3, _, h5, _ => simp only [lineOf]; rw [if_neg (fun e => h3 (eq_of_beq e) rfl), if_neg (fun e => h5 (eq_of_beq e) rfl)]
  | b :: c :: d :: f :: g :: r, _, _, _, _, _, _ => rfl
theorem ne_list {a : ByteArray} {l : Array UInt8} (h : ¬ a = ⟨l⟩) : ¬ a.toList = l.toList := by
  intro e
  rw [ByteArray.toList_eq] at e
  obtain ⟨d⟩ := a
  obtain ⟨d⟩ := d
  obtain ⟨l⟩ := l
  exact h (by cases e; rfl)
theorem eq_list {a : ByteArray} {l : Array UInt8} (h : a = ⟨l⟩) : a.toList = l.toList := by
  rw [h, ByteArray.toList_eq]
theorem four_of {α : Type} {xs : List α} (h : xs.length = 4) : ∃ a b c d, xs = [a, b, c, d] := by
  match xs, h with
  | [a, b, c, d], _ => exact ⟨a, b, c, d, rfl⟩
theorem strs_old {w : World} {B b off n : Nat} {ss : List ByteArray} (h : Strs w B (some ⟨b, off, none⟩) n ss) {C : Nat} (hC : b < C) : Strs w C (some ⟨b, off, none⟩) n ss := by
  obtain ⟨h1, h2, h3⟩ := h
  refine ⟨h1, h2, ?_⟩
  rcases h3 with h3 | ⟨b', o', e, hlt, h3⟩
  · exact .inl h3
  · cases e; exact .inr ⟨b, off, rfl, hC, h3⟩
set_option maxRecDepth 20000 in
set_option maxHeartbeats 8000000 in
theorem laLine_any (w : World) (B : Nat) (ao : Option Addr) (n c : Nat) (a : ByteArray) (ws : List ByteArray) (h : Strs w B ao n (a :: ws)) (hB : B ≤ w.heap.size) (hnc : n ≤ c) (hlo : RowS w ao) :
    Calls Tryz.prog 57 #[.slice ao n c] w (RetLr (lineOf readF (a :: ws)) w) := by
  have hn := h.1
  obtain ⟨b, off, rfl, hbB, hc⟩ := strs_cells h (by rw [← hn]; simp)
  obtain ⟨cw, qw, hcw⟩ := hlo _ rfl
  clear hlo
  obtain ⟨W1, hW1⟩ : ∃ W1, W1 = w.alloc (.cells #[.int .i64 0, .string ⟨#[]⟩, .string ⟨#[]⟩, .slice none 0 0, .int .i64 0, .int .i64 0, .int .i64 0] 47) := ⟨_, rfl⟩
  have hb1 : Below w.heap.size w W1 := by rw [hW1]; exact (Below.refl _ _).alloc (Nat.le_refl _) _
  have hrow : W1.heap[w.heap.size]? = some (.cells #[.int .i64 0, .string ⟨#[]⟩, .string ⟨#[]⟩, .slice none 0 0, .int .i64 0, .int .i64 0, .int .i64 0] 47 (0, 0)) := by rw [hW1]; exact heap_alloc_new w _
  have hc1 : ∀ (j : Nat) (x : ByteArray), (a :: ws)[j]? = some x → W1.cell? ⟨b, off + j, none⟩ = some (.string x) := fun j x hx => (hb1.cell (p := ⟨b, off + j, none⟩) (by show b < w.heap.size; omega)).trans (hc j x hx)
  have HW1 := Lib.hid hW1
  have k0 : W1.cell? ⟨b, off, none⟩ = some (.string a) := by simpa using hc1 0 a rfl
  obtain ⟨⟨r0, r1, r2, r3, r4, r5, r6⟩, fz⟩ := sevenZ hrow
  have f0 := fz 0
  have f1 := fz 1
  have f2 := fz 2
  have f3 := fz 3
  have f4 := fz 4
  have f5 := fz 5
  have f6 := fz 6
  clear fz
  clear hW1 hc
  have hp : 0 < n := by rw [← hn]; simp
  by_cases ha1 : a = ⟨#[105, 110, 112, 117, 116]⟩
  · subst ha1
    by_cases hq : n = 4
    · subst hq
      -- <S1>
      obtain ⟨x1, x2, x3, rfl⟩ := three_of (by simpa using hn : ws.length = 3)
      have k1 : W1.cell? ⟨b, off + 1, none⟩ = some (.string x1) := hc1 1 x1 rfl
      have k2 : W1.cell? ⟨b, off + 2, none⟩ = some (.string x2) := hc1 2 x2 rfl
      have k3 : W1.cell? ⟨b, off + 3, none⟩ = some (.string x3) := hc1 3 x3 rfl
      clear hc1
      go_enter Tryz.func57, Tryz.ntmps57
      go_wp2_with (rw [← HW1.out])
      refine wp_region_still_tail 12 (by kernel_rfl) (by kernel_rfl) ?_
      simp only [List.take_succ_cons, List.take_zero, List.drop_succ_cons, List.drop_zero]
      still_step
      still_step
      still_step
      still_call (read_still _ _)
      still_step
      still_step
      still_step
      still_step
      still_step
      still_step
      still_call (read_still _ _)
      still_step
      refine wpStill_nil ?_
      change wpList _ _ _ _ _ W1.drew
      go_wp2_with fail
      obtain ⟨⟨s0, s1, s2, s3, s4, s5, s6⟩, g7⟩ := stores7 (W := W1) hrow (.int .i64 1) (.string x2) (.string ⟨#[]⟩) (.slice none 0 0) (.int .i64 (readF x1)) (.int .i64 (readF x3)) (.int .i64 (0))
      refine bodyPost_ret (v := lineV ⟨1, x2, ⟨#[]⟩, [], readF x1, readF x3, 0⟩ none 0) (by simp [results, Tryz.results57, lineV, go_sem, s0, s1, s2, s3, s4, s5, s6]) rfl (RetLr.of (X := ⟨1, x2, ⟨#[]⟩, [], readF x1, readF x3, 0⟩) (po := none) (pc := 0) (by simp [lineOf]) ?_ ?_ ?_ ?_)
      · exact strs_none _ _ _
      · exact hb1.trans (bdrewN (g7 w.heap.size (Nat.le_refl _)) 1)
      · show ([] : List ByteArray).length ≤ _; simp; try omega
      · intro p hp; cases hp
      -- </S1>
    · have hq' : ((n : Int) == 4) = false := beq_eq_false_iff_ne.2 (by omega)
      -- <Z1>
      have hz : lineOf readF (⟨#[105, 110, 112, 117, 116]⟩ :: ws) = lnZ := lineOf_zero (fun _ => by simp at hn; omega) (fun e => absurd e (by decide)) (fun e => absurd e (by decide)) (fun e => absurd e (by decide)) (fun e => absurd e (by decide)) (fun e => absurd e (by decide))
      have HZ := Lib.hid hz
      clear hc1 hz
      go_enter Tryz.func57, Tryz.ntmps57
      go_wp2_with (rw [← HW1.out])
      obtain ⟨⟨s0, s1, s2, s3, s4, s5, s6⟩, g7⟩ := stores7 (W := W1) hrow (.int .i64 0) (.string ⟨#[]⟩) (.string ⟨#[]⟩) (.slice none 0 0) (.int .i64 0) (.int .i64 0) (.int .i64 0)
      refine bodyPost_ret (v := lineV lnZ none 0) (by simp [results, Tryz.results57, lineV, lnZ, go_sem, s0, s1, s2, s3, s4, s5, s6]) rfl (RetLr.of (X := lnZ) (po := none) (pc := 0) HZ.out (strs_none _ _ _) (hb1.trans (g7 w.heap.size (Nat.le_refl _))) (Nat.le_refl _) (fun p hp => by cases hp))
      -- </Z1>
  have nb1 : ¬ a.toList = [105, 110, 112, 117, 116] := ne_list ha1
  by_cases ha2 : a = ⟨#[99, 111, 110, 115, 116]⟩
  · subst ha2
    by_cases hq : n = 4
    · subst hq
      -- <S2>
      obtain ⟨x1, x2, x3, rfl⟩ := three_of (by simpa using hn : ws.length = 3)
      have k1 : W1.cell? ⟨b, off + 1, none⟩ = some (.string x1) := hc1 1 x1 rfl
      have k2 : W1.cell? ⟨b, off + 2, none⟩ = some (.string x2) := hc1 2 x2 rfl
      have k3 : W1.cell? ⟨b, off + 3, none⟩ = some (.string x3) := hc1 3 x3 rfl
      clear hc1
      go_enter Tryz.func57, Tryz.ntmps57
      go_wp2_with (rw [← HW1.out])
      refine wp_region_still_tail 12 (by kernel_rfl) (by kernel_rfl) ?_
      simp only [List.take_succ_cons, List.take_zero, List.drop_succ_cons, List.drop_zero]
      still_step
      still_step
      still_step
      still_step
      still_step
      still_step
      still_call (read_still _ _)
      still_step
      still_step
      still_step
      still_call (read_still _ _)
      still_step
      refine wpStill_nil ?_
      change wpList _ _ _ _ _ W1.drew
      go_wp2_with fail
      obtain ⟨⟨s0, s1, s2, s3, s4, s5, s6⟩, g7⟩ := stores7 (W := W1) hrow (.int .i64 2) (.string x1) (.string ⟨#[]⟩) (.slice none 0 0) (.int .i64 (0)) (.int .i64 (readF x2)) (.int .i64 (readF x3))
      refine bodyPost_ret (v := lineV ⟨2, x1, ⟨#[]⟩, [], 0, readF x2, readF x3⟩ none 0) (by simp [results, Tryz.results57, lineV, go_sem, s0, s1, s2, s3, s4, s5, s6]) rfl (RetLr.of (X := ⟨2, x1, ⟨#[]⟩, [], 0, readF x2, readF x3⟩) (po := none) (pc := 0) (by simp [lineOf]) ?_ ?_ ?_ ?_)
      · exact strs_none _ _ _
      · exact hb1.trans (bdrewN (g7 w.heap.size (Nat.le_refl _)) 1)
      · show ([] : List ByteArray).length ≤ _; simp; try omega
      · intro p hp; cases hp
      -- </S2>
    · have hq' : ((n : Int) == 4) = false := beq_eq_false_iff_ne.2 (by omega)
      -- <Z2>
      have hz : lineOf readF (⟨#[99, 111, 110, 115, 116]⟩ :: ws) = lnZ := lineOf_zero (fun e => absurd e (by decide)) (fun _ => by simp at hn; omega) (fun e => absurd e (by decide)) (fun e => absurd e (by decide)) (fun e => absurd e (by decide)) (fun e => absurd e (by decide))
      have HZ := Lib.hid hz
      clear hc1 hz
      go_enter Tryz.func57, Tryz.ntmps57
      go_wp2_with (rw [← HW1.out])
      obtain ⟨⟨s0, s1, s2, s3, s4, s5, s6⟩, g7⟩ := stores7 (W := W1) hrow (.int .i64 0) (.string ⟨#[]⟩) (.string ⟨#[]⟩) (.slice none 0 0) (.int .i64 0) (.int .i64 0) (.int .i64 0)
      refine bodyPost_ret (v := lineV lnZ none 0) (by simp [results, Tryz.results57, lineV, lnZ, go_sem, s0, s1, s2, s3, s4, s5, s6]) rfl (RetLr.of (X := lnZ) (po := none) (pc := 0) HZ.out (strs_none _ _ _) (hb1.trans (g7 w.heap.size (Nat.le_refl _))) (Nat.le_refl _) (fun p hp => by cases hp))
      -- </Z2>
  have nb2 : ¬ a.toList = [99, 111, 110, 115, 116] := ne_list ha2
  by_cases ha3 : a = ⟨#[108, 101, 116]⟩
  · subst ha3
    by_cases hq : n = 5
    · subst hq
      -- <S3>
      obtain ⟨x1, x2, x3, x4, rfl⟩ := four_of (by simpa using hn : ws.length = 4)
      have k1 : W1.cell? ⟨b, off + 1, none⟩ = some (.string x1) := hc1 1 x1 rfl
      have k2 : W1.cell? ⟨b, off + 2, none⟩ = some (.string x2) := hc1 2 x2 rfl
      have k3 : W1.cell? ⟨b, off + 3, none⟩ = some (.string x3) := hc1 3 x3 rfl
      have k4 : W1.cell? ⟨b, off + 4, none⟩ = some (.string x4) := hc1 4 x4 rfl
      have hrow2 : (W1.alloc (.cells #[.string x2, .string x4] 9)).heap[w.heap.size]? = _ := ((Below.refl W1.heap.size W1).alloc (Nat.le_refl _) _ |>.block _ (lt_of_block hrow)).trans hrow
      obtain ⟨⟨q0, q1, q2, q3, q4, q5, q6⟩, fq⟩ := sevenZ hrow2
      have e0 := fq 0
      have e1 := fq 1
      have e2 := fq 2
      have e3 := fq 3
      have e4 := fq 4
      have e5 := fq 5
      have e6 := fq 6
      clear fq
      clear hc1
      go_enter Tryz.func57, Tryz.ntmps57
      go_wp2_with (rw [← HW1.out])
      have hne : b ≠ w.heap.size := by omega
      have hne' : w.heap.size ≠ b := by omega
      go_region_held3 (fun W' => W'.cell? ⟨b, off + 1, none⟩ = some (.string x1) ∧ W'.cell? ⟨b, off + 2, none⟩ = some (.string x2) ∧ W'.cell? ⟨b, off + 3, none⟩ = some (.string x3) ∧ W'.cell? ⟨b, off + 4, none⟩ = some (.string x4)) (go_keep) (fail)
      go_wp2_with fail
      obtain ⟨⟨s0, s1, s2, s3, s4, s5, s6⟩, g7⟩ := stores7 (W := (W1.alloc (.cells #[.string x2, .string x4] 9))) hrow2 (.int .i64 3) (.string x1) (.string x3) (.slice (some ⟨W1.heap.size, 0, none⟩) 2 2) (.int .i64 (0)) (.int .i64 (0)) (.int .i64 (0))
      refine bodyPost_ret (v := lineV ⟨3, x1, x3, [x2, x4], 0, 0, 0⟩ (some ⟨W1.heap.size, 0, none⟩) 2) (by simp [results, Tryz.results57, lineV, go_sem, s0, s1, s2, s3, s4, s5, s6]) rfl (RetLr.of (X := ⟨3, x1, x3, [x2, x4], 0, 0, 0⟩) (po := (some ⟨W1.heap.size, 0, none⟩)) (pc := 2) (by simp [lineOf]) ?_ ?_ ?_ ?_)
      · have hbb := bdrewN (g7 w.heap.size (Nat.le_refl _)) 1
        have hfar : W1.heap.size ≠ w.heap.size := by have := lt_of_block hrow; omega
        have hnew : (W1.alloc (.cells #[.string x2, .string x4] 9)).heap[W1.heap.size]? = some (.cells #[.string x2, .string x4] 9 (0, 0)) := heap_alloc_new W1 _
        have n0 : (W1.alloc (.cells #[.string x2, .string x4] 9)).cell? ⟨W1.heap.size, 0, none⟩ = some (.string x2) := by rw [cell_of_row _ _ 0 _ _ (0, 0) hnew]; rfl
        have n1 : (W1.alloc (.cells #[.string x2, .string x4] 9)).cell? ⟨W1.heap.size, 1, none⟩ = some (.string x4) := by rw [cell_of_row _ _ 1 _ _ (0, 0) hnew]; rfl
        have hsz : W1.heap.size < (W1.alloc (.cells #[.string x2, .string x4] 9)).heap.size := lt_of_block hnew
        refine ⟨rfl, by show (2 : Nat) ≤ 1000000000; decide, .inr ⟨W1.heap.size, 0, rfl, Nat.lt_of_lt_of_le hsz hbb.size, fun j u hu => ?_⟩⟩
        match j, hu with
        | 0, hu => cases hu; show World.cell? _ ⟨W1.heap.size, 0, none⟩ = _; simp [World.cell?_setCell_far, hfar, n0, Ne.symm hfar]
        | 1, hu => cases hu; show World.cell? _ ⟨W1.heap.size, 1, none⟩ = _; simp [World.cell?_setCell_far, hfar, n1, Ne.symm hfar]
        | j + 2, hu => simp at hu
      · exact hb1.trans (((Below.refl W1.heap.size W1).alloc (Nat.le_refl _) _ |>.mono hb1.size).trans (bdrewN (g7 w.heap.size (Nat.le_refl _)) 1))
      · show ([x2, x4] : List ByteArray).length ≤ _; simp; try omega
      · intro p hp; cases hp; have hfar : W1.heap.size ≠ w.heap.size := by have := lt_of_block hrow; omega
        have hnew : (W1.alloc (.cells #[.string x2, .string x4] 9)).heap[W1.heap.size]? = some (.cells #[.string x2, .string x4] 9 (0, 0)) := heap_alloc_new W1 _
        refine ⟨_, _, Eq.trans ?_ hnew⟩
        simp only [World.drew, Below.heap_setCell, hfar, ne_eq, not_false_eq_true]
      -- </S3>
    · have hq' : ((n : Int) == 5) = false := beq_eq_false_iff_ne.2 (by omega)
      -- <Z3>
      have hz : lineOf readF (⟨#[108, 101, 116]⟩ :: ws) = lnZ := lineOf_zero (fun e => absurd e (by decide)) (fun e => absurd e (by decide)) (fun _ => by simp at hn; omega) (fun e => absurd e (by decide)) (fun e => absurd e (by decide)) (fun e => absurd e (by decide))
      have HZ := Lib.hid hz
      clear hc1 hz
      go_enter Tryz.func57, Tryz.ntmps57
      go_wp2_with (rw [← HW1.out])
      obtain ⟨⟨s0, s1, s2, s3, s4, s5, s6⟩, g7⟩ := stores7 (W := W1) hrow (.int .i64 0) (.string ⟨#[]⟩) (.string ⟨#[]⟩) (.slice none 0 0) (.int .i64 0) (.int .i64 0) (.int .i64 0)
      refine bodyPost_ret (v := lineV lnZ none 0) (by simp [results, Tryz.results57, lineV, lnZ, go_sem, s0, s1, s2, s3, s4, s5, s6]) rfl (RetLr.of (X := lnZ) (po := none) (pc := 0) HZ.out (strs_none _ _ _) (hb1.trans (g7 w.heap.size (Nat.le_refl _))) (Nat.le_refl _) (fun p hp => by cases hp))
      -- </Z3>
  have nb3 : ¬ a.toList = [108, 101, 116] := ne_list ha3
  by_cases ha4 : a = ⟨#[110, 111, 116]⟩
  · subst ha4
    by_cases hq : n = 3
    · subst hq
      -- <S4>
      obtain ⟨x1, x2, rfl⟩ := two_of (by simpa using hn : ws.length = 2)
      have k1 : W1.cell? ⟨b, off + 1, none⟩ = some (.string x1) := hc1 1 x1 rfl
      have k2 : W1.cell? ⟨b, off + 2, none⟩ = some (.string x2) := hc1 2 x2 rfl
      have hcs : Strs W1 W1.heap.size (some ⟨b, off + 2, none⟩) 1 [x2] := ⟨rfl, by decide, .inr ⟨b, off + 2, rfl, by have := hb1.size; omega, fun j u hu => by
        rw [List.getElem?_map] at hu
        cases hj : ([x2] : List ByteArray)[j]? with
        | none => rw [hj] at hu; cases hu
        | some y => rw [hj] at hu; cases hu; rw [Nat.add_assoc]; exact hc1 (2 + j) y (by rw [Nat.add_comm]; exact hj)⟩⟩
      clear hc1
      go_enter Tryz.func57, Tryz.ntmps57
      go_wp2_with (rw [← HW1.out])
      refine wp_region_still_tail 6 (by kernel_rfl) (by kernel_rfl) ?_
      simp only [List.take_succ_cons, List.take_zero, List.drop_succ_cons, List.drop_zero]
      still_step
      still_step
      still_step
      still_step
      still_step
      still_step
      refine wpStill_nil ?_
      change wpList _ _ _ _ _ W1.drew
      go_wp2_with fail
      obtain ⟨⟨s0, s1, s2, s3, s4, s5, s6⟩, g7⟩ := stores7 (W := W1) hrow (.int .i64 4) (.string x1) (.string ⟨#[]⟩) (.slice (some ⟨b, off + 2, none⟩) 1 (c - 2)) (.int .i64 (0)) (.int .i64 (0)) (.int .i64 (0))
      refine bodyPost_ret (v := lineV ⟨4, x1, ⟨#[]⟩, [x2], 0, 0, 0⟩ (some ⟨b, off + 2, none⟩) (c - 2)) (by simp [results, Tryz.results57, lineV, go_sem, s0, s1, s2, s3, s4, s5, s6]) rfl (RetLr.of (X := ⟨4, x1, ⟨#[]⟩, [x2], 0, 0, 0⟩) (po := (some ⟨b, off + 2, none⟩)) (pc := (c - 2)) (by simp [lineOf]) ?_ ?_ ?_ ?_)
      · have hbb := bdrewN (g7 w.heap.size (Nat.le_refl _)) 1
        exact ((strs_old hcs (by omega : b < w.heap.size)).below hbb (Nat.le_refl _)).up (Nat.le_trans (by have := hb1.size; omega) hbb.size)
      · exact hb1.trans (bdrewN (g7 w.heap.size (Nat.le_refl _)) 1)
      · show ([x2] : List ByteArray).length ≤ _; simp; try omega
      · intro p hp; cases hp; exact ⟨_, _, ((hb1.trans (bdrewN (g7 w.heap.size (Nat.le_refl _)) 1)).block b (by omega)).trans hcw⟩
      -- </S4>
    · have hq' : ((n : Int) == 3) = false := beq_eq_false_iff_ne.2 (by omega)
      -- <Z4>
      have hz : lineOf readF (⟨#[110, 111, 116]⟩ :: ws) = lnZ := lineOf_zero (fun e => absurd e (by decide)) (fun e => absurd e (by decide)) (fun e => absurd e (by decide)) (fun _ => by simp at hn; omega) (fun e => absurd e (by decide)) (fun e => absurd e (by decide))
      have HZ := Lib.hid hz
      clear hc1 hz
      go_enter Tryz.func57, Tryz.ntmps57
      go_wp2_with (rw [← HW1.out])
      obtain ⟨⟨s0, s1, s2, s3, s4, s5, s6⟩, g7⟩ := stores7 (W := W1) hrow (.int .i64 0) (.string ⟨#[]⟩) (.string ⟨#[]⟩) (.slice none 0 0) (.int .i64 0) (.int .i64 0) (.int .i64 0)
      refine bodyPost_ret (v := lineV lnZ none 0) (by simp [results, Tryz.results57, lineV, lnZ, go_sem, s0, s1, s2, s3, s4, s5, s6]) rfl (RetLr.of (X := lnZ) (po := none) (pc := 0) HZ.out (strs_none _ _ _) (hb1.trans (g7 w.heap.size (Nat.le_refl _))) (Nat.le_refl _) (fun p hp => by cases hp))
      -- </Z4>
  have nb4 : ¬ a.toList = [110, 111, 116] := ne_list ha4
  by_cases ha5 : a = ⟨#[112, 105, 99, 107]⟩
  · subst ha5
    by_cases hq : n = 5
    · subst hq
      -- <S5>
      obtain ⟨x1, x2, x3, x4, rfl⟩ := four_of (by simpa using hn : ws.length = 4)
      have k1 : W1.cell? ⟨b, off + 1, none⟩ = some (.string x1) := hc1 1 x1 rfl
      have k2 : W1.cell? ⟨b, off + 2, none⟩ = some (.string x2) := hc1 2 x2 rfl
      have k3 : W1.cell? ⟨b, off + 3, none⟩ = some (.string x3) := hc1 3 x3 rfl
      have k4 : W1.cell? ⟨b, off + 4, none⟩ = some (.string x4) := hc1 4 x4 rfl
      have hcs : Strs W1 W1.heap.size (some ⟨b, off + 2, none⟩) 3 [x2, x3, x4] := ⟨rfl, by decide, .inr ⟨b, off + 2, rfl, by have := hb1.size; omega, fun j u hu => by
        rw [List.getElem?_map] at hu
        cases hj : ([x2, x3, x4] : List ByteArray)[j]? with
        | none => rw [hj] at hu; cases hu
        | some y => rw [hj] at hu; cases hu; rw [Nat.add_assoc]; exact hc1 (2 + j) y (by rw [Nat.add_comm]; exact hj)⟩⟩
      clear hc1
      go_enter Tryz.func57, Tryz.ntmps57
      go_wp2_with (rw [← HW1.out])
      refine wp_region_still_tail 6 (by kernel_rfl) (by kernel_rfl) ?_
      simp only [List.take_succ_cons, List.take_zero, List.drop_succ_cons, List.drop_zero]
      still_step
      still_step
      still_step
      still_step
      still_step
      still_step
      refine wpStill_nil ?_
      change wpList _ _ _ _ _ W1.drew
      go_wp2_with fail
      obtain ⟨⟨s0, s1, s2, s3, s4, s5, s6⟩, g7⟩ := stores7 (W := W1) hrow (.int .i64 5) (.string x1) (.string ⟨#[]⟩) (.slice (some ⟨b, off + 2, none⟩) 3 (c - 2)) (.int .i64 (0)) (.int .i64 (0)) (.int .i64 (0))
      refine bodyPost_ret (v := lineV ⟨5, x1, ⟨#[]⟩, [x2, x3, x4], 0, 0, 0⟩ (some ⟨b, off + 2, none⟩) (c - 2)) (by simp [results, Tryz.results57, lineV, go_sem, s0, s1, s2, s3, s4, s5, s6]) rfl (RetLr.of (X := ⟨5, x1, ⟨#[]⟩, [x2, x3, x4], 0, 0, 0⟩) (po := (some ⟨b, off + 2, none⟩)) (pc := (c - 2)) (by simp [lineOf]) ?_ ?_ ?_ ?_)
      · have hbb := bdrewN (g7 w.heap.size (Nat.le_refl _)) 1
        exact ((strs_old hcs (by omega : b < w.heap.size)).below hbb (Nat.le_refl _)).up (Nat.le_trans (by have := hb1.size; omega) hbb.size)
      · exact hb1.trans (bdrewN (g7 w.heap.size (Nat.le_refl _)) 1)
      · show ([x2, x3, x4] : List ByteArray).length ≤ _; simp; try omega
      · intro p hp; cases hp; exact ⟨_, _, ((hb1.trans (bdrewN (g7 w.heap.size (Nat.le_refl _)) 1)).block b (by omega)).trans hcw⟩
      -- </S5>
    · have hq' : ((n : Int) == 5) = false := beq_eq_false_iff_ne.2 (by omega)
      -- <Z5>
      have hz : lineOf readF (⟨#[112, 105, 99, 107]⟩ :: ws) = lnZ := lineOf_zero (fun e => absurd e (by decide)) (fun e => absurd e (by decide)) (fun e => absurd e (by decide)) (fun e => absurd e (by decide)) (fun _ => by simp at hn; omega) (fun e => absurd e (by decide))
      have HZ := Lib.hid hz
      clear hc1 hz
      go_enter Tryz.func57, Tryz.ntmps57
      go_wp2_with (rw [← HW1.out])
      obtain ⟨⟨s0, s1, s2, s3, s4, s5, s6⟩, g7⟩ := stores7 (W := W1) hrow (.int .i64 0) (.string ⟨#[]⟩) (.string ⟨#[]⟩) (.slice none 0 0) (.int .i64 0) (.int .i64 0) (.int .i64 0)
      refine bodyPost_ret (v := lineV lnZ none 0) (by simp [results, Tryz.results57, lineV, lnZ, go_sem, s0, s1, s2, s3, s4, s5, s6]) rfl (RetLr.of (X := lnZ) (po := none) (pc := 0) HZ.out (strs_none _ _ _) (hb1.trans (g7 w.heap.size (Nat.le_refl _))) (Nat.le_refl _) (fun p hp => by cases hp))
      -- </Z5>
  have nb5 : ¬ a.toList = [112, 105, 99, 107] := ne_list ha5
  by_cases ha6 : a = ⟨#[111, 117, 116]⟩
  · subst ha6
    by_cases hq : n = 2
    · subst hq
      -- <S6>
      obtain ⟨x1, rfl⟩ := one_of (by simpa using hn : ws.length = 1)
      have k1 : W1.cell? ⟨b, off + 1, none⟩ = some (.string x1) := hc1 1 x1 rfl
      have hcs : Strs W1 W1.heap.size (some ⟨b, off + 1, none⟩) 1 [x1] := ⟨rfl, by decide, .inr ⟨b, off + 1, rfl, by have := hb1.size; omega, fun j u hu => by
        rw [List.getElem?_map] at hu
        cases hj : ([x1] : List ByteArray)[j]? with
        | none => rw [hj] at hu; cases hu
        | some y => rw [hj] at hu; cases hu; rw [Nat.add_assoc]; exact hc1 (1 + j) y (by rw [Nat.add_comm]; exact hj)⟩⟩
      clear hc1
      go_enter Tryz.func57, Tryz.ntmps57
      go_wp2_with (rw [← HW1.out])
      obtain ⟨⟨s0, s1, s2, s3, s4, s5, s6⟩, g7⟩ := stores7 (W := W1) hrow (.int .i64 6) (.string ⟨#[]⟩) (.string ⟨#[]⟩) (.slice (some ⟨b, off + 1, none⟩) 1 (c - 1)) (.int .i64 (0)) (.int .i64 (0)) (.int .i64 (0))
      refine bodyPost_ret (v := lineV ⟨6, ⟨#[]⟩, ⟨#[]⟩, [x1], 0, 0, 0⟩ (some ⟨b, off + 1, none⟩) (c - 1)) (by simp [results, Tryz.results57, lineV, go_sem, s0, s1, s2, s3, s4, s5, s6]) rfl (RetLr.of (X := ⟨6, ⟨#[]⟩, ⟨#[]⟩, [x1], 0, 0, 0⟩) (po := (some ⟨b, off + 1, none⟩)) (pc := (c - 1)) (by simp [lineOf]) ?_ ?_ ?_ ?_)
      · have hbb := g7 w.heap.size (Nat.le_refl _)
        exact ((strs_old hcs (by omega : b < w.heap.size)).below hbb (Nat.le_refl _)).up (Nat.le_trans (by have := hb1.size; omega) hbb.size)
      · exact hb1.trans (g7 w.heap.size (Nat.le_refl _))
      · show ([x1] : List ByteArray).length ≤ _; simp; try omega
      · intro p hp; cases hp; exact ⟨_, _, ((hb1.trans (g7 w.heap.size (Nat.le_refl _))).block b (by omega)).trans hcw⟩
      -- </S6>
    · have hq' : ((n : Int) == 2) = false := beq_eq_false_iff_ne.2 (by omega)
      -- <Z6>
      have hz : lineOf readF (⟨#[111, 117, 116]⟩ :: ws) = lnZ := lineOf_zero (fun e => absurd e (by decide)) (fun e => absurd e (by decide)) (fun e => absurd e (by decide)) (fun e => absurd e (by decide)) (fun e => absurd e (by decide)) (fun _ => by simp at hn; omega)
      have HZ := Lib.hid hz
      clear hc1 hz
      go_enter Tryz.func57, Tryz.ntmps57
      go_wp2_with (rw [← HW1.out])
      obtain ⟨⟨s0, s1, s2, s3, s4, s5, s6⟩, g7⟩ := stores7 (W := W1) hrow (.int .i64 0) (.string ⟨#[]⟩) (.string ⟨#[]⟩) (.slice none 0 0) (.int .i64 0) (.int .i64 0) (.int .i64 0)
      refine bodyPost_ret (v := lineV lnZ none 0) (by simp [results, Tryz.results57, lineV, lnZ, go_sem, s0, s1, s2, s3, s4, s5, s6]) rfl (RetLr.of (X := lnZ) (po := none) (pc := 0) HZ.out (strs_none _ _ _) (hb1.trans (g7 w.heap.size (Nat.le_refl _))) (Nat.le_refl _) (fun p hp => by cases hp))
      -- </Z6>
  have nb6 : ¬ a.toList = [111, 117, 116] := ne_list ha6
  -- <D>
  have hz : lineOf readF (a :: ws) = lnZ := lineOf_zero (fun e => absurd e ha1) (fun e => absurd e ha2) (fun e => absurd e ha3) (fun e => absurd e ha4) (fun e => absurd e ha5) (fun e => absurd e ha6)
  have HZ := Lib.hid hz
  clear hc1 hz
  go_enter Tryz.func57, Tryz.ntmps57
  go_wp2_with (rw [← HW1.out])
  obtain ⟨⟨s0, s1, s2, s3, s4, s5, s6⟩, g7⟩ := stores7 (W := W1) hrow (.int .i64 0) (.string ⟨#[]⟩) (.string ⟨#[]⟩) (.slice none 0 0) (.int .i64 0) (.int .i64 0) (.int .i64 0)
  refine bodyPost_ret (v := lineV lnZ none 0) (by simp [results, Tryz.results57, lineV, lnZ, go_sem, s0, s1, s2, s3, s4, s5, s6]) rfl (RetLr.of (X := lnZ) (po := none) (pc := 0) HZ.out (strs_none _ _ _) (hb1.trans (g7 w.heap.size (Nat.le_refl _))) (Nat.le_refl _) (fun p hp => by cases hp))
  -- </D>
end Go.Proofs.YtdlddkgmjpmenaaGreatDoor
