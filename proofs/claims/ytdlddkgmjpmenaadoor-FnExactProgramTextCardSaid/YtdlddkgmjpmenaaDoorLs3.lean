/-
  The language: comparisons of equal programs in the laws.
-/
import Derived.Test.YtdlddkgmjpmenaaDoorLs2
import Derived.Test.YtdlddkgmjpmenaaDoorFlat
import Derived.StillTailTactics
namespace Go.Proofs.YtdlddkgmjpmenaaDoor
open Go.RowKit
set_option linter.unusedVariables false
set_option linter.unusedSimpArgs false

set_option maxHeartbeats 2000000 in
theorem eqStringS_same (w : World) (B C : Nat) (ao bo : Option Addr) (n c d : Nat) (ss : List ByteArray) (ha : Strs w B ao n ss) (hb : Strs w C bo n ss) (hB : B ≤ w.heap.size) (hC : C ≤ w.heap.size) :
    Calls Tryd.prog 27 #[.slice ao n c, .slice bo n d] w (RetB true w) := by
  have hn := ha.le
  go_enter Tryd.func27, Tryd.ntmps27
  go_wp2
  go_loopw [5] (fun i wr => ∃ k : Nat, k ≤ n ∧ i = .int .i64 k ∧ Below w.heap.size w wr) (fun i _ => n - (intOf i).toNat)
  case atStart => exact ⟨0, Nat.zero_le _, rfl, Below.refl _ _⟩
  case round =>
    obtain ⟨k, hk, rfl, hbel⟩ := hrel
    by_cases hlt : k < n
    · obtain ⟨b1, o1, x, rfl, hb1, hx, hc1⟩ := (ha.below hbel hB).at hlt
      obtain ⟨b2, o2, y, rfl, hb2, hy, hc2⟩ := (hb.below hbel hC).at hlt
      obtain rfl : x = y := by rw [hx] at hy; simpa using hy
      clear hx hy
      go_wp2
      go_quiet (fail)
      have hbd := bdrewN hbel nq
      generalize wr.drewN nq = wd at hbd ⊢
      clear hc1 hc2
      go_wp2_with fail
      go_roundw
      case rel => exact ⟨k + 1, by omega, by go_num, hbd⟩
      case measure => simp [intOf] <;> omega
    · obtain rfl : k = n := by omega
      go_wp2
      go_ret
      exact ⟨rfl, hbel⟩
set_option maxHeartbeats 4000000 in
set_option maxRecDepth 20000 in
theorem eqLine_same (w : World) (B C : Nat) (l : Ln) (pa pb : Option Addr) (pc qc : Nat) (ha : Strs w B pa l.parts.length l.parts) (hb : Strs w C pb l.parts.length l.parts) (hB : B ≤ w.heap.size) (hC : C ≤ w.heap.size) :
    Calls Tryd.prog 15 #[lineV l pa pc, lineV l pb qc] w (RetB true w) := by
  obtain ⟨W1, hW1⟩ : ∃ W1, W1 = w.alloc (lineObj l pa pc) := ⟨_, rfl⟩
  have hb1 : Below w.heap.size w W1 := by rw [hW1]; exact (Below.refl _ _).alloc (Nat.le_refl _) _
  have hx1 : BoxL W1 w.heap.size l pa pc := by rw [hW1]; exact boxL_new _ _ _ _
  have hz1 : w.heap.size < W1.heap.size := by rw [hW1]; simp
  have HW1 := Lib.hid hW1
  clear hW1
  obtain ⟨W2, hW2⟩ : ∃ W2, W2 = W1.alloc (lineObj l pb qc) := ⟨_, rfl⟩
  have hb2 : Below W1.heap.size W1 W2 := by rw [hW2]; exact (Below.refl _ _).alloc (Nat.le_refl _) _
  have hx2 : BoxL W2 W1.heap.size l pb qc := by rw [hW2]; exact boxL_new _ _ _ _
  have hz2 : W1.heap.size < W2.heap.size := by rw [hW2]; simp
  have HW2 := Lib.hid hW2
  clear hW2
  have hbw := hb1.trans (hb2.mono (by omega))
  have hA := (ha.below hbw hB)
  have hBB := (hb.below hbw hC)
  have HX1 := Lib.hid (hx1.below hb2 hz1)
  have HX2 := Lib.hid hx2
  clear hx1 hx2
  unfold lineObj at HW1 HW2
  unfold lineV
  obtain ⟨e0, e1, e2, e3, e4, e5, e6⟩ := HX1.out
  obtain ⟨d0, d1, d2, d3, d4, d5, d6⟩ := HX2.out
  go_enter Tryd.func15, Tryd.ntmps15
  go_wp2_with (first | rw [← HW1.out] | rw [← HW2.out])
  refine (eqStringS_same _ _ _ _ _ _ _ _ _ hA hBB (by omega) (by omega)).mono ?_
  rintro e w3 ⟨rfl, hb3⟩
  clear e0 e1 e2 e3 e4 e5 e6 d0 d1 d2 d3 d4 d5 d6
  obtain ⟨e0, e1, e2, e3, e4, e5, e6⟩ := HX1.out.below hb3 (by omega)
  obtain ⟨d0, d1, d2, d3, d4, d5, d6⟩ := HX2.out.below hb3 hz2
  go_wp2_with fail
  go_ret
  exact ⟨rfl, hbw.trans (hb3.mono hbw.size)⟩
set_option maxHeartbeats 4000000 in
set_option maxRecDepth 20000 in
theorem eqLineS_same (w : World) (B C : Nat) (ao bo : Option Addr) (n c d : Nat) (ls : List Ln) (ha : Lns w B ao n ls) (hb : Lns w C bo n ls) (hB : B ≤ w.heap.size) (hC : C ≤ w.heap.size) :
    Calls Tryd.prog 8 #[.slice ao n c, .slice bo n d] w (RetB true w) := by
  have hn := ha.le
  go_enter Tryd.func8, Tryd.ntmps8
  go_wp2
  go_loopw [5] (fun i wr => ∃ k : Nat, k ≤ n ∧ i = .int .i64 k ∧ Below w.heap.size w wr) (fun i _ => n - (intOf i).toNat)
  case atStart => exact ⟨0, Nat.zero_le _, rfl, Below.refl _ _⟩
  case round =>
    obtain ⟨k, hk, rfl, hbel⟩ := hrel
    by_cases hlt : k < n
    · obtain ⟨b1, o1, x, pa, pc, rfl, hb1, hx, hps, g0, g1, g2, g3, g4, g5, g6⟩ := (ha.below hbel hB).at hlt
      obtain ⟨b2, o2, y, pb, qc, rfl, hb2, hy, hqs, k0, k1, k2, k3, k4, k5, k6⟩ := (hb.below hbel hC).at hlt
      obtain rfl : x = y := by rw [hx] at hy; simpa using hy
      clear hx hy
      go_wp2_with fail
      go_still_tail 8, (by kernel_rfl)
      change wpList _ _ _ _ _ wr.drew
      have hbd : Below w.heap.size w wr.drew := bdrewN hbel 1
      have hps' : Strs wr.drew B pa x.parts.length x.parts := hps
      have hqs' : Strs wr.drew C pb x.parts.length x.parts := hqs
      clear g0 g1 g2 g3 g4 g5 g6 k0 k1 k2 k3 k4 k5 k6 hps hqs
      generalize wr.drew = wd at *
      go_wp2_with fail
      refine (eqLine_same _ _ _ x _ _ _ _ hps' hqs' (Nat.le_trans hB hbd.size) (Nat.le_trans hC hbd.size)).mono ?_
      rintro e w3 ⟨rfl, hb3⟩
      go_wp2_with fail
      go_roundw
      case rel => exact ⟨k + 1, by omega, by go_num, hbd.trans (hb3.mono hbd.size)⟩
      case measure => simp [intOf] <;> omega
    · obtain rfl : k = n := by omega
      go_wp2
      go_ret
      exact ⟨rfl, hbel⟩
end Go.Proofs.YtdlddkgmjpmenaaDoor
