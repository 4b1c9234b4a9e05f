/-
  Programs read back: a line out of its words, by the program (printed by XPr5.py).
-/
import Derived.Test.YtdlddkgmjpmenaaGreatDoorHPr
namespace Go.Proofs.YtdlddkgmjpmenaaGreatDoor
open Go.RowKit
set_option linter.unusedVariables false
set_option linter.unusedSimpArgs false

theorem RetLn.of {x X : Ln} {w w' : World} {po : Option Addr} {pc : Nat} (hx : x = X) (hs : OwnSt w.heap.size w' po X.parts.length pc X.parts) (hb : Below w.heap.size w w') : RetLn x w (.returned (lineV X po pc)) w' := by
  subst hx; exact ⟨po, pc, rfl, hs, hb⟩
theorem own_new1 {S g : Nat} {w : World} {s : ByteArray} (h : w.heap[g]? = some (.cells #[.string s] 9 (0, 0))) (hS : S ≤ g) : OwnSt S w (some ⟨g, 0, none⟩) 1 1 [s] :=
  ⟨rfl, by decide, .inr ⟨_, rfl, rfl, .inr ⟨g, 1, _, rfl, hS, h, Nat.le_refl _, by decide, rfl, rfl⟩⟩⟩
theorem own_new2 {S g : Nat} {w : World} {s t : ByteArray} (h : w.heap[g]? = some (.cells #[.string s, .string t] 9 (0, 0))) (hS : S ≤ g) : OwnSt S w (some ⟨g, 0, none⟩) 2 2 [s, t] :=
  ⟨rfl, by decide, .inr ⟨_, rfl, rfl, .inr ⟨g, 2, _, rfl, hS, h, Nat.le_refl _, by decide, rfl, rfl⟩⟩⟩
theorem own_far7 {S x n pc : Nat} {w : World} {po : Option Addr} {ss : List ByteArray} (h : OwnSt S w po n pc ss) (hx : x < S) (v0 v1 v2 v3 v4 v5 v6 : Value) : OwnSt S (((((((w.setCell ⟨x, 0, none⟩ v0).setCell ⟨x, 1, none⟩ v1).setCell ⟨x, 2, none⟩ v2).setCell ⟨x, 3, none⟩ v3).setCell ⟨x, 4, none⟩ v4).setCell ⟨x, 5, none⟩ v5).setCell ⟨x, 6, none⟩ v6) po n pc ss := by
  have st : ∀ {W : World} (j : Nat) (v : Value), OwnSt S W po n pc ss → OwnSt S (W.setCell ⟨x, j, none⟩ v) po n pc ss := fun j v h => h.other (grown_setC _ ⟨x, j, none⟩ _) (fun p q hp hq => by have := (h.rowLt p hp).1; simp at hq; omega)
  exact st 6 v6 (st 5 v5 (st 4 v4 (st 3 v3 (st 2 v2 (st 1 v1 (st 0 v0 h))))))
set_option maxRecDepth 20000 in
set_option maxHeartbeats 8000000 in
theorem readLine_any (w : World) (B : Nat) (ao : Option Addr) (n c : Nat) (a : ByteArray) (ws : List ByteArray) (h : Strs w B ao n (a :: ws)) (hB : B ≤ w.heap.size) (hnc : n ≤ c) (hsz : ∀ x ∈ ws, x.size ≤ 1048576) (he : ErrsB w) :
    Calls Tryz.prog 29 #[.slice ao n c] w (RetLn (lineOf atoiV (a :: ws)) w) := by
  have hn := h.1
  obtain ⟨b, off, rfl, hbB, hc⟩ := strs_cells h (by rw [← hn]; simp)
  obtain ⟨W0, hW0⟩ : ∃ W0, W0 = w.alloc (.cells #[.slice (some ⟨b, off, none⟩) n c] 45) := ⟨_, rfl⟩
  have hb0 : Below w.heap.size w W0 := by rw [hW0]; exact (Below.refl _ _).alloc (Nat.le_refl _) _
  have hs0 : W0.heap.size = w.heap.size + 1 := by rw [hW0]; simp
  have hrow0 : W0.heap[w.heap.size]? = some (.cells #[.slice (some ⟨b, off, none⟩) n c] 45 (0, 0)) := by rw [hW0]; exact heap_alloc_new w _
  obtain ⟨W1, hW1⟩ : ∃ W1, W1 = W0.alloc (.cells #[.int .i64 0, .string ⟨#[]⟩, .string ⟨#[]⟩, .slice none 0 0, .int .i64 0, .int .i64 0, .int .i64 0] 47) := ⟨_, rfl⟩
  have hb01 : Below W0.heap.size W0 W1 := by rw [hW1]; exact (Below.refl _ _).alloc (Nat.le_refl _) _
  have hb1 : Below w.heap.size w W1 := hb0.trans (hb01.mono hb0.size)
  have hrow : W1.heap[w.heap.size + 1]? = some (.cells #[.int .i64 0, .string ⟨#[]⟩, .string ⟨#[]⟩, .slice none 0 0, .int .i64 0, .int .i64 0, .int .i64 0] 47 (0, 0)) := by rw [hW1, ← hs0]; exact heap_alloc_new W0 _
  have hs1 : W1.heap.size = w.heap.size + 2 := by rw [hW1]; simp [hs0]
  have kw : W1.cell? ⟨w.heap.size, 0, none⟩ = some (.slice (some ⟨b, off, none⟩) n c) := (hb01.cell (p := ⟨w.heap.size, 0, none⟩) (by show w.heap.size < W0.heap.size; omega)).trans (by rw [cell_of_row _ _ 0 _ _ (0, 0) hrow0]; rfl)
  have hc1 : ∀ (j : Nat) (x : ByteArray), (a :: ws)[j]? = some x → W1.cell? ⟨b, off + j, none⟩ = some (.string x) := fun j x hx => (hb1.cell (p := ⟨b, off + j, none⟩) (by show b < w.heap.size; omega)).trans (hc j x hx)
  rw [hW0] at hW1
  have HW1 := Lib.hid hW1
  have k0 : W1.cell? ⟨b, off, none⟩ = some (.string a) := by simpa using hc1 0 a rfl
  obtain ⟨⟨r0, r1, r2, r3, r4, r5, r6⟩, fz⟩ := sevenZ hrow
  have f0 := fz 0
  have f1 := fz 1
  have f2 := fz 2
  have f3 := fz 3
  have f4 := fz 4
  have f5 := fz 5
  have f6 := fz 6
  clear fz
  clear hW1 hc hW0 hrow0 hb0 hb01 hs0
  have hp : 0 < n := by rw [← hn]; simp
  have hne : b ≠ w.heap.size + 1 := by omega
  have hne' : w.heap.size + 1 ≠ b := by omega
  have hnf : w.heap.size ≠ w.heap.size + 1 := by omega
  have hnf' : w.heap.size + 1 ≠ w.heap.size := by omega
  by_cases ha1 : a = ⟨#[105, 110, 112, 117, 116]⟩
  · subst ha1
    by_cases hq : n = 4
    · subst hq
      -- <S1>
      obtain ⟨x1, x2, x3, rfl⟩ := three_of (by simpa using hn : ws.length = 3)
      have k1 : W1.cell? ⟨b, off + 1, none⟩ = some (.string x1) := hc1 1 x1 rfl
      have k2 : W1.cell? ⟨b, off + 2, none⟩ = some (.string x2) := hc1 2 x2 rfl
      have k3 : W1.cell? ⟨b, off + 3, none⟩ = some (.string x3) := hc1 3 x3 rfl
      have HC : ∀ W', Below W1.heap.size W1 W' → (W'.cell? ⟨w.heap.size, 0, none⟩ = some (.slice (some ⟨b, off, none⟩) 4 c) ∧ W'.cell? ⟨b, off + 1, none⟩ = some (.string x1) ∧ W'.cell? ⟨b, off + 2, none⟩ = some (.string x2) ∧ W'.cell? ⟨b, off + 3, none⟩ = some (.string x3)) := fun W' hb =>
        ⟨(hb.cell (p := ⟨w.heap.size, 0, none⟩) (by show w.heap.size < _; omega)).trans kw, (hb.cell (p := ⟨b, off + 1, none⟩) (by show b < _; omega)).trans k1, (hb.cell (p := ⟨b, off + 2, none⟩) (by show b < _; omega)).trans k2, (hb.cell (p := ⟨b, off + 3, none⟩) (by show b < _; omega)).trans k3⟩
      have HR : ∀ W', Below W1.heap.size W1 W' → W'.heap[w.heap.size + 1]? = some (.cells #[.int .i64 0, .string ⟨#[]⟩, .string ⟨#[]⟩, .slice none 0 0, .int .i64 0, .int .i64 0, .int .i64 0] 47 (0, 0)) := fun W' hb => (hb.block _ (by omega)).trans hrow
      have z1 := hsz x1 (by simp)
      have z3 := hsz x3 (by simp)
      have hbd : Below W1.heap.size W1 W1.drew := bdrewN (Below.refl _ _) 1
      have hed : ErrsAt W1.drew := he _ (bdrewN hb1 1)
      have HCh := Lib.hid HC
      have HRh := Lib.hid HR
      have HEh := Lib.hid he
      clear hc1 hsz HC HR he
      have HS1 := Lib.hid hs1
      clear hs1
      go_enter Tryz.func29, Tryz.ntmps29
      go_wp2_with (rw [← HW1.out])
      go_region_held3 (fun W' => W'.cell? ⟨w.heap.size, 0, none⟩ = some (.slice (some ⟨b, off, none⟩) 4 c) ∧ W'.cell? ⟨b, off + 2, none⟩ = some (.string x2)) (first | with_reducible exact ⟨p0, p2⟩ | with_reducible exact ⟨m0, m2⟩ | (refine ⟨?_, ?_⟩ <;> simp [World.cell?_setCell_far, p0, p2, hne, hne', hnf, hnf']) | exact ⟨kw, k2⟩)
        ((first
          | (have hq := he2; go_simp; refine (num_any _ x3 3 z3 he2 b off 4 c w.heap.size (by omega) m0 m3).mono ?_; rintro e w3 ⟨rfl, hb3⟩; have hb3' : Below W1.heap.size W1 w3 := hb2'.trans (hb3.mono hb2'.size); obtain ⟨p0, p1, p2, p3⟩ := HCh.out _ hb3'; have hr3 := HRh.out _ hb3'; obtain ⟨⟨v0, v1, v2, v3, v4, v5, v6⟩, fv⟩ := sevenZ hr3; have g0 := fv 0; have g1 := fv 1; have g2 := fv 2; have g3 := fv 3; have g4 := fv 4; have g5 := fv 5; have g6 := fv 6; try go_wp2_with fail)
          | (go_simp; refine (num_any _ x1 1 z1 hed b off 4 c w.heap.size (by omega) kw k1).mono ?_; rintro e w2 ⟨rfl, hb2⟩; have hb2' : Below W1.heap.size W1 w2 := hbd.trans hb2; obtain ⟨m0, m1, m2, m3⟩ := HCh.out _ hb2'; have he2 : ErrsAt w2 := HEh.out _ (hb1.trans (hb2'.mono hb1.size)); try go_wp2_with fail)))
      all_goals go_wp2_with fail
      have hs1 := HS1.out
      obtain ⟨⟨s0, s1, s2, s3, s4, s5, s6⟩, g7⟩ := stores7 (W := w3) hr3 (.int .i64 1) (.string x2) (.string ⟨#[]⟩) (.slice none 0 0) (.int .i64 (atoiV x1)) (.int .i64 (atoiV x3)) (.int .i64 (0))
      refine bodyPost_ret (v := lineV ⟨1, x2, ⟨#[]⟩, [], atoiV x1, atoiV x3, 0⟩ none 0) (by simp [results, Tryz.results29, lineV, go_sem, s0, s1, s2, s3, s4, s5, s6]) rfl (RetLn.of (X := ⟨1, x2, ⟨#[]⟩, [], atoiV x1, atoiV x3, 0⟩) (po := none) (pc := 0) (by simp [lineOf]) ?_ ?_)
      · exact OwnSt.nil _ _ _
      · exact hb1.trans ((hb3'.mono hb1.size).trans (g7 w.heap.size (by omega)))
      -- </S1>
    · have hq' : ((n : Int) == 4) = false := beq_eq_false_iff_ne.2 (by omega)
      -- <Z1>
      have hz : lineOf atoiV (⟨#[105, 110, 112, 117, 116]⟩ :: ws) = lnZ := lineOf_zero (fun _ => by simp at hn; omega) (fun e => absurd e (by decide)) (fun e => absurd e (by decide)) (fun e => absurd e (by decide)) (fun e => absurd e (by decide)) (fun e => absurd e (by decide))
      have HZ := Lib.hid hz
      clear hc1 hz hsz he
      have HS1 := Lib.hid hs1
      clear hs1
      go_enter Tryz.func29, Tryz.ntmps29
      go_wp2_with (rw [← HW1.out])
      obtain ⟨⟨s0, s1, s2, s3, s4, s5, s6⟩, g7⟩ := stores7 (W := W1) hrow (.int .i64 0) (.string ⟨#[]⟩) (.string ⟨#[]⟩) (.slice none 0 0) (.int .i64 0) (.int .i64 0) (.int .i64 0)
      refine bodyPost_ret (v := lineV lnZ none 0) (by simp [results, Tryz.results29, lineV, lnZ, go_sem, s0, s1, s2, s3, s4, s5, s6]) rfl (RetLn.of (X := lnZ) (po := none) (pc := 0) HZ.out (OwnSt.nil _ _ _) (hb1.trans (g7 w.heap.size (by omega))))
      -- </Z1>
  have nb1 : ¬ a.toList = [105, 110, 112, 117, 116] := ne_list ha1
  by_cases ha2 : a = ⟨#[99, 111, 110, 115, 116]⟩
  · subst ha2
    by_cases hq : n = 4
    · subst hq
      -- <S2>
      obtain ⟨x1, x2, x3, rfl⟩ := three_of (by simpa using hn : ws.length = 3)
      have k1 : W1.cell? ⟨b, off + 1, none⟩ = some (.string x1) := hc1 1 x1 rfl
      have k2 : W1.cell? ⟨b, off + 2, none⟩ = some (.string x2) := hc1 2 x2 rfl
      have k3 : W1.cell? ⟨b, off + 3, none⟩ = some (.string x3) := hc1 3 x3 rfl
      have HC : ∀ W', Below W1.heap.size W1 W' → (W'.cell? ⟨w.heap.size, 0, none⟩ = some (.slice (some ⟨b, off, none⟩) 4 c) ∧ W'.cell? ⟨b, off + 1, none⟩ = some (.string x1) ∧ W'.cell? ⟨b, off + 2, none⟩ = some (.string x2) ∧ W'.cell? ⟨b, off + 3, none⟩ = some (.string x3)) := fun W' hb =>
        ⟨(hb.cell (p := ⟨w.heap.size, 0, none⟩) (by show w.heap.size < _; omega)).trans kw, (hb.cell (p := ⟨b, off + 1, none⟩) (by show b < _; omega)).trans k1, (hb.cell (p := ⟨b, off + 2, none⟩) (by show b < _; omega)).trans k2, (hb.cell (p := ⟨b, off + 3, none⟩) (by show b < _; omega)).trans k3⟩
      have HR : ∀ W', Below W1.heap.size W1 W' → W'.heap[w.heap.size + 1]? = some (.cells #[.int .i64 0, .string ⟨#[]⟩, .string ⟨#[]⟩, .slice none 0 0, .int .i64 0, .int .i64 0, .int .i64 0] 47 (0, 0)) := fun W' hb => (hb.block _ (by omega)).trans hrow
      have z2 := hsz x2 (by simp)
      have z3 := hsz x3 (by simp)
      have hbd : Below W1.heap.size W1 W1.drew := bdrewN (Below.refl _ _) 1
      have hed : ErrsAt W1.drew := he _ (bdrewN hb1 1)
      have HCh := Lib.hid HC
      have HRh := Lib.hid HR
      have HEh := Lib.hid he
      clear hc1 hsz HC HR he
      have HS1 := Lib.hid hs1
      clear hs1
      go_enter Tryz.func29, Tryz.ntmps29
      go_wp2_with (rw [← HW1.out])
      go_region_held3 (fun W' => W'.cell? ⟨w.heap.size, 0, none⟩ = some (.slice (some ⟨b, off, none⟩) 4 c) ∧ W'.cell? ⟨b, off + 1, none⟩ = some (.string x1)) (first | with_reducible exact ⟨p0, p1⟩ | with_reducible exact ⟨m0, m1⟩ | (refine ⟨?_, ?_⟩ <;> simp [World.cell?_setCell_far, p0, p1, hne, hne', hnf, hnf']) | exact ⟨kw, k1⟩)
        ((first
          | (have hq := he2; go_simp; refine (num_any _ x3 3 z3 he2 b off 4 c w.heap.size (by omega) m0 m3).mono ?_; rintro e w3 ⟨rfl, hb3⟩; have hb3' : Below W1.heap.size W1 w3 := hb2'.trans (hb3.mono hb2'.size); obtain ⟨p0, p1, p2, p3⟩ := HCh.out _ hb3'; have hr3 := HRh.out _ hb3'; obtain ⟨⟨v0, v1, v2, v3, v4, v5, v6⟩, fv⟩ := sevenZ hr3; have g0 := fv 0; have g1 := fv 1; have g2 := fv 2; have g3 := fv 3; have g4 := fv 4; have g5 := fv 5; have g6 := fv 6; try go_wp2_with fail)
          | (go_simp; refine (num_any _ x2 2 z2 hed b off 4 c w.heap.size (by omega) kw k2).mono ?_; rintro e w2 ⟨rfl, hb2⟩; have hb2' : Below W1.heap.size W1 w2 := hbd.trans hb2; obtain ⟨m0, m1, m2, m3⟩ := HCh.out _ hb2'; have he2 : ErrsAt w2 := HEh.out _ (hb1.trans (hb2'.mono hb1.size)); try go_wp2_with fail)))
      all_goals go_wp2_with fail
      have hs1 := HS1.out
      obtain ⟨⟨s0, s1, s2, s3, s4, s5, s6⟩, g7⟩ := stores7 (W := w3) hr3 (.int .i64 2) (.string x1) (.string ⟨#[]⟩) (.slice none 0 0) (.int .i64 (0)) (.int .i64 (atoiV x2)) (.int .i64 (atoiV x3))
      refine bodyPost_ret (v := lineV ⟨2, x1, ⟨#[]⟩, [], 0, atoiV x2, atoiV x3⟩ none 0) (by simp [results, Tryz.results29, lineV, go_sem, s0, s1, s2, s3, s4, s5, s6]) rfl (RetLn.of (X := ⟨2, x1, ⟨#[]⟩, [], 0, atoiV x2, atoiV x3⟩) (po := none) (pc := 0) (by simp [lineOf]) ?_ ?_)
      · exact OwnSt.nil _ _ _
      · exact hb1.trans ((hb3'.mono hb1.size).trans (g7 w.heap.size (by omega)))
      -- </S2>
    · have hq' : ((n : Int) == 4) = false := beq_eq_false_iff_ne.2 (by omega)
      -- <Z2>
      have hz : lineOf atoiV (⟨#[99, 111, 110, 115, 116]⟩ :: ws) = lnZ := lineOf_zero (fun e => absurd e (by decide)) (fun _ => by simp at hn; omega) (fun e => absurd e (by decide)) (fun e => absurd e (by decide)) (fun e => absurd e (by decide)) (fun e => absurd e (by decide))
      have HZ := Lib.hid hz
      clear hc1 hz hsz he
      have HS1 := Lib.hid hs1
      clear hs1
      go_enter Tryz.func29, Tryz.ntmps29
      go_wp2_with (rw [← HW1.out])
      obtain ⟨⟨s0, s1, s2, s3, s4, s5, s6⟩, g7⟩ := stores7 (W := W1) hrow (.int .i64 0) (.string ⟨#[]⟩) (.string ⟨#[]⟩) (.slice none 0 0) (.int .i64 0) (.int .i64 0) (.int .i64 0)
      refine bodyPost_ret (v := lineV lnZ none 0) (by simp [results, Tryz.results29, lineV, lnZ, go_sem, s0, s1, s2, s3, s4, s5, s6]) rfl (RetLn.of (X := lnZ) (po := none) (pc := 0) HZ.out (OwnSt.nil _ _ _) (hb1.trans (g7 w.heap.size (by omega))))
      -- </Z2>
  have nb2 : ¬ a.toList = [99, 111, 110, 115, 116] := ne_list ha2
  by_cases ha3 : a = ⟨#[108, 101, 116]⟩
  · subst ha3
    by_cases hq : n = 5
    · subst hq
      -- <S3>
      obtain ⟨x1, x2, x3, x4, rfl⟩ := four_of (by simpa using hn : ws.length = 4)
      have k1 : W1.cell? ⟨b, off + 1, none⟩ = some (.string x1) := hc1 1 x1 rfl
      have k2 : W1.cell? ⟨b, off + 2, none⟩ = some (.string x2) := hc1 2 x2 rfl
      have k3 : W1.cell? ⟨b, off + 3, none⟩ = some (.string x3) := hc1 3 x3 rfl
      have k4 : W1.cell? ⟨b, off + 4, none⟩ = some (.string x4) := hc1 4 x4 rfl
      have hrow2 : (W1.alloc (.cells #[.string x2, .string x4] 9)).heap[w.heap.size + 1]? = some (.cells #[.int .i64 0, .string ⟨#[]⟩, .string ⟨#[]⟩, .slice none 0 0, .int .i64 0, .int .i64 0, .int .i64 0] 47 (0, 0)) := ((Below.refl W1.heap.size W1).alloc (Nat.le_refl _) _ |>.block _ (lt_of_block hrow)).trans hrow
      obtain ⟨⟨q0, q1, q2, q3, q4, q5, q6⟩, fq⟩ := sevenZ hrow2
      have e0 := fq 0
      have e1 := fq 1
      have e2 := fq 2
      have e3 := fq 3
      have e4 := fq 4
      have e5 := fq 5
      have e6 := fq 6
      clear fq hc1 hsz he
      have HS1 := Lib.hid hs1
      clear hs1
      go_enter Tryz.func29, Tryz.ntmps29
      go_wp2_with (rw [← HW1.out])
      go_region_held3 (fun W' => W'.cell? ⟨w.heap.size, 0, none⟩ = some (.slice (some ⟨b, off, none⟩) 5 c) ∧ W'.cell? ⟨b, off + 1, none⟩ = some (.string x1) ∧ W'.cell? ⟨b, off + 2, none⟩ = some (.string x2) ∧ W'.cell? ⟨b, off + 3, none⟩ = some (.string x3) ∧ W'.cell? ⟨b, off + 4, none⟩ = some (.string x4)) (go_keep) (fail)
      all_goals go_wp2_with fail
      have hs1 := HS1.out
      obtain ⟨⟨s0, s1, s2, s3, s4, s5, s6⟩, g7⟩ := stores7 (W := (W1.alloc (.cells #[.string x2, .string x4] 9))) hrow2 (.int .i64 3) (.string x1) (.string x3) (.slice (some ⟨W1.heap.size, 0, none⟩) 2 2) (.int .i64 (0)) (.int .i64 (0)) (.int .i64 (0))
      refine bodyPost_ret (v := lineV ⟨3, x1, x3, [x2, x4], 0, 0, 0⟩ (some ⟨W1.heap.size, 0, none⟩) 2) (by simp [results, Tryz.results29, lineV, go_sem, s0, s1, s2, s3, s4, s5, s6]) rfl (RetLn.of (X := ⟨3, x1, x3, [x2, x4], 0, 0, 0⟩) (po := (some ⟨W1.heap.size, 0, none⟩)) (pc := 2) (by simp [lineOf]) ?_ ?_)
      · have hfar : W1.heap.size ≠ w.heap.size + 1 := by omega
        have hnew : (W1.alloc (.cells #[.string x2, .string x4] 9)).heap[W1.heap.size]? = some (.cells #[.string x2, .string x4] 9 (0, 0)) := heap_alloc_new W1 _
        refine own_new2 (Eq.trans ?_ hnew) hb1.size
        simp only [World.drew, Below.heap_setCell, hfar, ne_eq, not_false_eq_true]
      · exact hb1.trans (((Below.refl W1.heap.size W1).alloc (Nat.le_refl _) _ |>.mono hb1.size).trans (bdrewN (g7 w.heap.size (by omega)) 1))
      -- </S3>
    · have hq' : ((n : Int) == 5) = false := beq_eq_false_iff_ne.2 (by omega)
      -- <Z3>
      have hz : lineOf atoiV (⟨#[108, 101, 116]⟩ :: ws) = lnZ := lineOf_zero (fun e => absurd e (by decide)) (fun e => absurd e (by decide)) (fun _ => by simp at hn; omega) (fun e => absurd e (by decide)) (fun e => absurd e (by decide)) (fun e => absurd e (by decide))
      have HZ := Lib.hid hz
      clear hc1 hz hsz he
      have HS1 := Lib.hid hs1
      clear hs1
      go_enter Tryz.func29, Tryz.ntmps29
      go_wp2_with (rw [← HW1.out])
      obtain ⟨⟨s0, s1, s2, s3, s4, s5, s6⟩, g7⟩ := stores7 (W := W1) hrow (.int .i64 0) (.string ⟨#[]⟩) (.string ⟨#[]⟩) (.slice none 0 0) (.int .i64 0) (.int .i64 0) (.int .i64 0)
      refine bodyPost_ret (v := lineV lnZ none 0) (by simp [results, Tryz.results29, lineV, lnZ, go_sem, s0, s1, s2, s3, s4, s5, s6]) rfl (RetLn.of (X := lnZ) (po := none) (pc := 0) HZ.out (OwnSt.nil _ _ _) (hb1.trans (g7 w.heap.size (by omega))))
      -- </Z3>
  have nb3 : ¬ a.toList = [108, 101, 116] := ne_list ha3
  by_cases ha4 : a = ⟨#[110, 111, 116]⟩
  · subst ha4
    by_cases hq : n = 3
    · subst hq
      -- <S4>
      obtain ⟨x1, x2, rfl⟩ := two_of (by simpa using hn : ws.length = 2)
      have k1 : W1.cell? ⟨b, off + 1, none⟩ = some (.string x1) := hc1 1 x1 rfl
      have k2 : W1.cell? ⟨b, off + 2, none⟩ = some (.string x2) := hc1 2 x2 rfl
      have hrow2 : (W1.alloc (.cells #[.string x2] 9)).heap[w.heap.size + 1]? = some (.cells #[.int .i64 0, .string ⟨#[]⟩, .string ⟨#[]⟩, .slice none 0 0, .int .i64 0, .int .i64 0, .int .i64 0] 47 (0, 0)) := ((Below.refl W1.heap.size W1).alloc (Nat.le_refl _) _ |>.block _ (lt_of_block hrow)).trans hrow
      obtain ⟨⟨q0, q1, q2, q3, q4, q5, q6⟩, fq⟩ := sevenZ hrow2
      have e0 := fq 0
      have e1 := fq 1
      have e2 := fq 2
      have e3 := fq 3
      have e4 := fq 4
      have e5 := fq 5
      have e6 := fq 6
      clear fq hc1 hsz he
      have HS1 := Lib.hid hs1
      clear hs1
      go_enter Tryz.func29, Tryz.ntmps29
      go_wp2_with (rw [← HW1.out])
      go_region_held3 (fun W' => W'.cell? ⟨w.heap.size, 0, none⟩ = some (.slice (some ⟨b, off, none⟩) 3 c) ∧ W'.cell? ⟨b, off + 1, none⟩ = some (.string x1) ∧ W'.cell? ⟨b, off + 2, none⟩ = some (.string x2)) (go_keep) (fail)
      all_goals go_wp2_with fail
      have hs1 := HS1.out
      obtain ⟨⟨s0, s1, s2, s3, s4, s5, s6⟩, g7⟩ := stores7 (W := (W1.alloc (.cells #[.string x2] 9))) hrow2 (.int .i64 4) (.string x1) (.string ⟨#[]⟩) (.slice (some ⟨W1.heap.size, 0, none⟩) 1 1) (.int .i64 (0)) (.int .i64 (0)) (.int .i64 (0))
      refine bodyPost_ret (v := lineV ⟨4, x1, ⟨#[]⟩, [x2], 0, 0, 0⟩ (some ⟨W1.heap.size, 0, none⟩) 1) (by simp [results, Tryz.results29, lineV, go_sem, s0, s1, s2, s3, s4, s5, s6]) rfl (RetLn.of (X := ⟨4, x1, ⟨#[]⟩, [x2], 0, 0, 0⟩) (po := (some ⟨W1.heap.size, 0, none⟩)) (pc := 1) (by simp [lineOf]) ?_ ?_)
      · have hfar : W1.heap.size ≠ w.heap.size + 1 := by omega
        have hnew : (W1.alloc (.cells #[.string x2] 9)).heap[W1.heap.size]? = some (.cells #[.string x2] 9 (0, 0)) := heap_alloc_new W1 _
        refine own_new1 (Eq.trans ?_ hnew) hb1.size
        simp only [World.drew, Below.heap_setCell, hfar, ne_eq, not_false_eq_true]
      · exact hb1.trans (((Below.refl W1.heap.size W1).alloc (Nat.le_refl _) _ |>.mono hb1.size).trans (bdrewN (g7 w.heap.size (by omega)) 1))
      -- </S4>
    · have hq' : ((n : Int) == 3) = false := beq_eq_false_iff_ne.2 (by omega)
      -- <Z4>
      have hz : lineOf atoiV (⟨#[110, 111, 116]⟩ :: ws) = lnZ := lineOf_zero (fun e => absurd e (by decide)) (fun e => absurd e (by decide)) (fun e => absurd e (by decide)) (fun _ => by simp at hn; omega) (fun e => absurd e (by decide)) (fun e => absurd e (by decide))
      have HZ := Lib.hid hz
      clear hc1 hz hsz he
      have HS1 := Lib.hid hs1
      clear hs1
      go_enter Tryz.func29, Tryz.ntmps29
      go_wp2_with (rw [← HW1.out])
      obtain ⟨⟨s0, s1, s2, s3, s4, s5, s6⟩, g7⟩ := stores7 (W := W1) hrow (.int .i64 0) (.string ⟨#[]⟩) (.string ⟨#[]⟩) (.slice none 0 0) (.int .i64 0) (.int .i64 0) (.int .i64 0)
      refine bodyPost_ret (v := lineV lnZ none 0) (by simp [results, Tryz.results29, lineV, lnZ, go_sem, s0, s1, s2, s3, s4, s5, s6]) rfl (RetLn.of (X := lnZ) (po := none) (pc := 0) HZ.out (OwnSt.nil _ _ _) (hb1.trans (g7 w.heap.size (by omega))))
      -- </Z4>
  have nb4 : ¬ a.toList = [110, 111, 116] := ne_list ha4
  by_cases ha5 : a = ⟨#[112, 105, 99, 107]⟩
  · subst ha5
    by_cases hq : n = 5
    · subst hq
      -- <S5>
      obtain ⟨x1, x2, x3, x4, rfl⟩ := four_of (by simpa using hn : ws.length = 4)
      have k1 : W1.cell? ⟨b, off + 1, none⟩ = some (.string x1) := hc1 1 x1 rfl
      have k2 : W1.cell? ⟨b, off + 2, none⟩ = some (.string x2) := hc1 2 x2 rfl
      have k3 : W1.cell? ⟨b, off + 3, none⟩ = some (.string x3) := hc1 3 x3 rfl
      have k4 : W1.cell? ⟨b, off + 4, none⟩ = some (.string x4) := hc1 4 x4 rfl
      have hcs : Strs W1 W1.heap.size (some ⟨b, off + 2, none⟩) 3 [x2, x3, x4] := ⟨rfl, by decide, .inr ⟨b, off + 2, rfl, by have := hb1.size; omega, fun j u hu => by
        rw [List.getElem?_map] at hu
        cases hj : ([x2, x3, x4] : List ByteArray)[j]? with
        | none => rw [hj] at hu; cases hu
        | some y => rw [hj] at hu; cases hu; rw [Nat.add_assoc]; exact hc1 (2 + j) y (by rw [Nat.add_comm]; exact hj)⟩⟩
      have hc2 : ¬ c = 2 := by omega
      clear hc1 hsz he
      have HC : ∀ W', Below W1.heap.size W1 W' → (W'.cell? ⟨w.heap.size, 0, none⟩ = some (.slice (some ⟨b, off, none⟩) 5 c) ∧ W'.cell? ⟨b, off + 1, none⟩ = some (.string x1)) := fun W' hb =>
        ⟨(hb.cell (p := ⟨w.heap.size, 0, none⟩) (by show w.heap.size < _; omega)).trans kw, (hb.cell (p := ⟨b, off + 1, none⟩) (by show b < _; omega)).trans k1⟩
      have HR : ∀ W', Below W1.heap.size W1 W' → W'.heap[w.heap.size + 1]? = some (.cells #[.int .i64 0, .string ⟨#[]⟩, .string ⟨#[]⟩, .slice none 0 0, .int .i64 0, .int .i64 0, .int .i64 0] 47 (0, 0)) := fun W' hb => (hb.block _ (by omega)).trans hrow
      have hbd : Below W1.heap.size W1 W1.drew := bdrewN (Below.refl _ _) 1
      have hcd : Strs W1.drew W1.heap.size (some ⟨b, off + 2, none⟩) 3 [x2, x3, x4] := hcs.below hbd (Nat.le_refl _)
      have HCh := Lib.hid HC
      have HRh := Lib.hid HR
      have HCD := Lib.hid hcd
      clear HC HR hcd hcs
      have HS1 := Lib.hid hs1
      clear hs1
      go_enter Tryz.func29, Tryz.ntmps29
      go_wp2_with (rw [← HW1.out])
      go_region_held3 (fun W' => W'.cell? ⟨w.heap.size, 0, none⟩ = some (.slice (some ⟨b, off, none⟩) 5 c) ∧ W'.cell? ⟨b, off + 1, none⟩ = some (.string x1)) (first | with_reducible exact ⟨p0, p1⟩ | (refine ⟨?_, ?_⟩ <;> simp [World.cell?_setCell_far, p0, p1, hne, hne', hnf, hnf']) | exact ⟨kw, k1⟩) (((try go_simp); (try rw [if_neg hc2]); refine (cloneS_any _ _ _ _ (c - 2) _ HCD.out (Nat.le_refl _) (by decide)).mono ?_; rintro e w3 ⟨po, m, pc, rfl, ho3, hb3⟩; have hb3' : Below W1.heap.size W1 w3 := hbd.trans hb3; obtain ⟨p0, p1⟩ := HCh.out _ hb3'; have hr3 := HRh.out _ hb3'; have hm3 := ho3.1; obtain ⟨⟨v0, v1, v2, v3, v4, v5, v6⟩, fv⟩ := sevenZ hr3; have g0 := fv 0; have g1 := fv 1; have g2 := fv 2; have g3 := fv 3; have g4 := fv 4; have g5 := fv 5; have g6 := fv 6; try go_wp2_with fail))
      all_goals go_wp2_with fail
      have hs1 := HS1.out
      obtain rfl : 3 = m := hm3
      obtain ⟨⟨s0, s1, s2, s3, s4, s5, s6⟩, g7⟩ := stores7 (W := w3) hr3 (.int .i64 5) (.string x1) (.string ⟨#[]⟩) (.slice po 3 pc) (.int .i64 (0)) (.int .i64 (0)) (.int .i64 (0))
      refine bodyPost_ret (v := lineV ⟨5, x1, ⟨#[]⟩, [x2, x3, x4], 0, 0, 0⟩ po pc) (by simp [results, Tryz.results29, lineV, go_sem, s0, s1, s2, s3, s4, s5, s6]) rfl (RetLn.of (X := ⟨5, x1, ⟨#[]⟩, [x2, x3, x4], 0, 0, 0⟩) (po := po) (pc := pc) (by simp [lineOf]) ?_ ?_)
      · exact own_far7 (ho3.up (C := w.heap.size + 2) (by show w.heap.size + 2 ≤ W1.heap.size; omega)) (by omega) _ _ _ _ _ _ _ |>.up (by omega)
      · exact hb1.trans ((hb3'.mono hb1.size).trans (g7 w.heap.size (by omega)))
      -- </S5>
    · have hq' : ((n : Int) == 5) = false := beq_eq_false_iff_ne.2 (by omega)
      -- <Z5>
      have hz : lineOf atoiV (⟨#[112, 105, 99, 107]⟩ :: ws) = lnZ := lineOf_zero (fun e => absurd e (by decide)) (fun e => absurd e (by decide)) (fun e => absurd e (by decide)) (fun e => absurd e (by decide)) (fun _ => by simp at hn; omega) (fun e => absurd e (by decide))
      have HZ := Lib.hid hz
      clear hc1 hz hsz he
      have HS1 := Lib.hid hs1
      clear hs1
      go_enter Tryz.func29, Tryz.ntmps29
      go_wp2_with (rw [← HW1.out])
      obtain ⟨⟨s0, s1, s2, s3, s4, s5, s6⟩, g7⟩ := stores7 (W := W1) hrow (.int .i64 0) (.string ⟨#[]⟩) (.string ⟨#[]⟩) (.slice none 0 0) (.int .i64 0) (.int .i64 0) (.int .i64 0)
      refine bodyPost_ret (v := lineV lnZ none 0) (by simp [results, Tryz.results29, lineV, lnZ, go_sem, s0, s1, s2, s3, s4, s5, s6]) rfl (RetLn.of (X := lnZ) (po := none) (pc := 0) HZ.out (OwnSt.nil _ _ _) (hb1.trans (g7 w.heap.size (by omega))))
      -- </Z5>
  have nb5 : ¬ a.toList = [112, 105, 99, 107] := ne_list ha5
  by_cases ha6 : a = ⟨#[111, 117, 116]⟩
  · subst ha6
    by_cases hq : n = 2
    · subst hq
      -- <S6>
      obtain ⟨x1, rfl⟩ := one_of (by simpa using hn : ws.length = 1)
      have k1 : W1.cell? ⟨b, off + 1, none⟩ = some (.string x1) := hc1 1 x1 rfl
      have hrow2 : (W1.alloc (.cells #[.string x1] 9)).heap[w.heap.size + 1]? = some (.cells #[.int .i64 0, .string ⟨#[]⟩, .string ⟨#[]⟩, .slice none 0 0, .int .i64 0, .int .i64 0, .int .i64 0] 47 (0, 0)) := ((Below.refl W1.heap.size W1).alloc (Nat.le_refl _) _ |>.block _ (lt_of_block hrow)).trans hrow
      obtain ⟨⟨q0, q1, q2, q3, q4, q5, q6⟩, fq⟩ := sevenZ hrow2
      have e0 := fq 0
      have e1 := fq 1
      have e2 := fq 2
      have e3 := fq 3
      have e4 := fq 4
      have e5 := fq 5
      have e6 := fq 6
      clear fq hc1 hsz he
      have HS1 := Lib.hid hs1
      clear hs1
      go_enter Tryz.func29, Tryz.ntmps29
      go_wp2_with (rw [← HW1.out])
      have hs1 := HS1.out
      obtain ⟨⟨s0, s1, s2, s3, s4, s5, s6⟩, g7⟩ := stores7 (W := (W1.alloc (.cells #[.string x1] 9))) hrow2 (.int .i64 6) (.string ⟨#[]⟩) (.string ⟨#[]⟩) (.slice (some ⟨W1.heap.size, 0, none⟩) 1 1) (.int .i64 (0)) (.int .i64 (0)) (.int .i64 (0))
      refine bodyPost_ret (v := lineV ⟨6, ⟨#[]⟩, ⟨#[]⟩, [x1], 0, 0, 0⟩ (some ⟨W1.heap.size, 0, none⟩) 1) (by simp [results, Tryz.results29, lineV, go_sem, s0, s1, s2, s3, s4, s5, s6]) rfl (RetLn.of (X := ⟨6, ⟨#[]⟩, ⟨#[]⟩, [x1], 0, 0, 0⟩) (po := (some ⟨W1.heap.size, 0, none⟩)) (pc := 1) (by simp [lineOf]) ?_ ?_)
      · have hfar : W1.heap.size ≠ w.heap.size + 1 := by omega
        have hnew : (W1.alloc (.cells #[.string x1] 9)).heap[W1.heap.size]? = some (.cells #[.string x1] 9 (0, 0)) := heap_alloc_new W1 _
        refine own_new1 (Eq.trans ?_ hnew) hb1.size
        simp only [World.drew, Below.heap_setCell, hfar, ne_eq, not_false_eq_true]
      · exact hb1.trans (((Below.refl W1.heap.size W1).alloc (Nat.le_refl _) _ |>.mono hb1.size).trans (g7 w.heap.size (by omega)))
      -- </S6>
    · have hq' : ((n : Int) == 2) = false := beq_eq_false_iff_ne.2 (by omega)
      -- <Z6>
      have hz : lineOf atoiV (⟨#[111, 117, 116]⟩ :: ws) = lnZ := lineOf_zero (fun e => absurd e (by decide)) (fun e => absurd e (by decide)) (fun e => absurd e (by decide)) (fun e => absurd e (by decide)) (fun e => absurd e (by decide)) (fun _ => by simp at hn; omega)
      have HZ := Lib.hid hz
      clear hc1 hz hsz he
      have HS1 := Lib.hid hs1
      clear hs1
      go_enter Tryz.func29, Tryz.ntmps29
      go_wp2_with (rw [← HW1.out])
      obtain ⟨⟨s0, s1, s2, s3, s4, s5, s6⟩, g7⟩ := stores7 (W := W1) hrow (.int .i64 0) (.string ⟨#[]⟩) (.string ⟨#[]⟩) (.slice none 0 0) (.int .i64 0) (.int .i64 0) (.int .i64 0)
      refine bodyPost_ret (v := lineV lnZ none 0) (by simp [results, Tryz.results29, lineV, lnZ, go_sem, s0, s1, s2, s3, s4, s5, s6]) rfl (RetLn.of (X := lnZ) (po := none) (pc := 0) HZ.out (OwnSt.nil _ _ _) (hb1.trans (g7 w.heap.size (by omega))))
      -- </Z6>
  have nb6 : ¬ a.toList = [111, 117, 116] := ne_list ha6
  -- <D>
  have hz : lineOf atoiV (a :: ws) = lnZ := lineOf_zero (fun e => absurd e ha1) (fun e => absurd e ha2) (fun e => absurd e ha3) (fun e => absurd e ha4) (fun e => absurd e ha5) (fun e => absurd e ha6)
  have HZ := Lib.hid hz
  clear hc1 hz hsz he
  have HS1 := Lib.hid hs1
  clear hs1
  go_enter Tryz.func29, Tryz.ntmps29
  go_wp2_with (rw [← HW1.out])
  obtain ⟨⟨s0, s1, s2, s3, s4, s5, s6⟩, g7⟩ := stores7 (W := W1) hrow (.int .i64 0) (.string ⟨#[]⟩) (.string ⟨#[]⟩) (.slice none 0 0) (.int .i64 0) (.int .i64 0) (.int .i64 0)
  refine bodyPost_ret (v := lineV lnZ none 0) (by simp [results, Tryz.results29, lineV, lnZ, go_sem, s0, s1, s2, s3, s4, s5, s6]) rfl (RetLn.of (X := lnZ) (po := none) (pc := 0) HZ.out (OwnSt.nil _ _ _) (hb1.trans (g7 w.heap.size (by omega))))
  -- </D>
end Go.Proofs.YtdlddkgmjpmenaaGreatDoor
