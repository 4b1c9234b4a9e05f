/-
  The laws' comparisons of equal answers: lists of ints, of texts, of lines.
-/
import Derived.Test.YtdlddkgmjpmenaaML
import Derived.Test.YtdlddkgmjpmenaaMC
namespace Go.Proofs.Ytdlddkgmjpmenaa
open Go.RowKit
set_option linter.unusedVariables false
set_option linter.unusedSimpArgs false

theorem qInts_same (w : World) (B C : Nat) (ao bo : Option Addr) (n c d : Nat) (xs : List Int) (ha : Ints w B ao n xs) (hb : Ints w C bo n xs) (hB : B ≤ w.heap.size) (hC : C ≤ w.heap.size) :
    Calls Try.prog 16 #[.slice ao n c, .slice bo n d] w (RetB true w) := by
  have hn := ha.le
  go_enter Try.func16, Try.ntmps16
  go_wp2
  go_loopw [13] (fun i wr => ∃ k : Nat, k ≤ n ∧ i = .int .i64 k ∧ Below w.heap.size w wr) (fun i _ => n - (intOf i).toNat)
  case atStart => exact ⟨0, Nat.zero_le _, rfl, Below.refl _ _⟩
  case round =>
    obtain ⟨k, hk, rfl, hbel⟩ := hrel
    by_cases hlt : k < n
    · obtain ⟨b1, o1, x, rfl, hb1, hx, hc1⟩ := (ha.below hbel hB).at hlt
      obtain ⟨b2, o2, y, rfl, hb2, hy, hc2⟩ := (hb.below hbel hC).at hlt
      obtain rfl : x = y := by rw [hx] at hy; simpa using hy
      clear hx hy
      go_wp2
      go_quiet (fail)
      have hbd := bdrewN hbel nq
      generalize wr.drewN nq = wd at hbd ⊢
      clear hc1 hc2
      go_wp2_with fail
      go_roundw
      case rel => exact ⟨k + 1, by omega, by go_num, hbd⟩
      case measure => simp [intOf] <;> omega
    · obtain rfl : k = n := by omega
      go_wp2
      go_ret
      exact ⟨rfl, hbel⟩
set_option maxHeartbeats 2000000 in
theorem qTexts_same (w : World) (B C : Nat) (ao bo : Option Addr) (n c d : Nat) (ss : List ByteArray) (ha : Strs w B ao n ss) (hb : Strs w C bo n ss) (hB : B ≤ w.heap.size) (hC : C ≤ w.heap.size) :
    Calls Try.prog 17 #[.slice ao n c, .slice bo n d] w (RetB true w) := by
  have hn := ha.le
  go_enter Try.func17, Try.ntmps17
  go_wp2
  go_loopw [13] (fun i wr => ∃ k : Nat, k ≤ n ∧ i = .int .i64 k ∧ Below w.heap.size w wr) (fun i _ => n - (intOf i).toNat)
  case atStart => exact ⟨0, Nat.zero_le _, rfl, Below.refl _ _⟩
  case round =>
    obtain ⟨k, hk, rfl, hbel⟩ := hrel
    by_cases hlt : k < n
    · obtain ⟨b1, o1, x, rfl, hb1, hx, hc1⟩ := (ha.below hbel hB).at hlt
      obtain ⟨b2, o2, y, rfl, hb2, hy, hc2⟩ := (hb.below hbel hC).at hlt
      obtain rfl : x = y := by rw [hx] at hy; simpa using hy
      clear hx hy
      go_wp2
      go_quiet (fail)
      have hbd := bdrewN hbel nq
      generalize wr.drewN nq = wd at hbd ⊢
      clear hc1 hc2
      go_wp2_with fail
      go_roundw
      case rel => exact ⟨k + 1, by omega, by go_num, hbd⟩
      case measure => simp [intOf] <;> omega
    · obtain rfl : k = n := by omega
      go_wp2
      go_ret
      exact ⟨rfl, hbel⟩
theorem below_drew {B : Nat} {a w : World} (h : Below B a w) : Below B a w.drew := ⟨h.os, h.tape, h.output, h.size, h.block⟩
set_option maxHeartbeats 8000000 in
set_option maxRecDepth 20000 in
theorem qLines_same (w : World) (B C : Nat) (ao bo : Option Addr) (n c d : Nat) (ls : List Ln) (ha : Lns w B ao n ls) (hb : Lns w C bo n ls) (hB : B ≤ w.heap.size) (hC : C ≤ w.heap.size) :
    Calls Try.prog 15 #[.slice ao n c, .slice bo n d] w (RetB true w) := by
  have hn := ha.le
  go_enter Try.func15, Try.ntmps15
  go_wp2
  go_loopw [15] (fun i wr => ∃ k : Nat, k ≤ n ∧ i = .int .i64 k ∧ Below w.heap.size w wr) (fun i _ => n - (intOf i).toNat)
  case atStart => exact ⟨0, Nat.zero_le _, rfl, Below.refl _ _⟩
  case round =>
    obtain ⟨k, hk, rfl, hbel⟩ := hrel
    obtain ⟨wq, rfl⟩ : ∃ wq : World, wq = wr := ⟨_, rfl⟩
    by_cases hlt : k < n
    · obtain ⟨b1, o1, x, pa, pc, rfl, hb1, hx, hps, g0, g1, g2, g3, g4, g5, g6⟩ := (ha.below hbel hB).at hlt
      obtain ⟨b2, o2, y, pb, qc, rfl, hb2, hy, hqs, k0, k1, k2, k3, k4, k5, k6⟩ := (hb.below hbel hC).at hlt
      obtain rfl : x = y := by rw [hx] at hy; simpa using hy
      clear hx hy
      have hz := hbel.size
      have l1 : b1 < wq.heap.size := by omega
      have l2 : b2 < wq.heap.size := by omega
      go_upto_region 6 with fail
      go_cut [6, 7] (fun s6 s7 wx => ∃ p q : Nat, s6 = .pointer (some ⟨p, 0, none⟩) ∧ s7 = .pointer (some ⟨q, 0, none⟩) ∧ wx.heap[p]? = some (lineObj x pa pc) ∧ wx.heap[q]? = some (lineObj x pb qc) ∧ Below wq.heap.size wq wx)
      case first =>
        have hS : ∀ W' : World, Below wq.heap.size wq W' → W'.cell? ⟨b1, o1 + k * 7, none⟩ = some (.int .i64 x.kind) ∧ W'.cell? ⟨b1, o1 + k * 7 + 1, none⟩ = some (.string x.name) ∧ W'.cell? ⟨b1, o1 + k * 7 + 2, none⟩ = some (.string x.op) ∧ W'.cell? ⟨b1, o1 + k * 7 + 3, none⟩ = some (.slice pa x.parts.length pc) ∧ W'.cell? ⟨b1, o1 + k * 7 + 4, none⟩ = some (.int .i64 x.party) ∧ W'.cell? ⟨b1, o1 + k * 7 + 5, none⟩ = some (.int .i64 x.width) ∧ W'.cell? ⟨b1, o1 + k * 7 + 6, none⟩ = some (.int .i64 x.value) ∧
            W'.cell? ⟨b2, o2 + k * 7, none⟩ = some (.int .i64 x.kind) ∧ W'.cell? ⟨b2, o2 + k * 7 + 1, none⟩ = some (.string x.name) ∧ W'.cell? ⟨b2, o2 + k * 7 + 2, none⟩ = some (.string x.op) ∧ W'.cell? ⟨b2, o2 + k * 7 + 3, none⟩ = some (.slice pb x.parts.length qc) ∧ W'.cell? ⟨b2, o2 + k * 7 + 4, none⟩ = some (.int .i64 x.party) ∧ W'.cell? ⟨b2, o2 + k * 7 + 5, none⟩ = some (.int .i64 x.width) ∧ W'.cell? ⟨b2, o2 + k * 7 + 6, none⟩ = some (.int .i64 x.value) ∧ Below wq.heap.size wq W' :=
          fun W' h => ⟨(h.cell (p := ⟨b1, _, none⟩) l1).trans g0, (h.cell (p := ⟨b1, _, none⟩) l1).trans g1, (h.cell (p := ⟨b1, _, none⟩) l1).trans g2, (h.cell (p := ⟨b1, _, none⟩) l1).trans g3, (h.cell (p := ⟨b1, _, none⟩) l1).trans g4, (h.cell (p := ⟨b1, _, none⟩) l1).trans g5, (h.cell (p := ⟨b1, _, none⟩) l1).trans g6,
            (h.cell (p := ⟨b2, _, none⟩) l2).trans k0, (h.cell (p := ⟨b2, _, none⟩) l2).trans k1, (h.cell (p := ⟨b2, _, none⟩) l2).trans k2, (h.cell (p := ⟨b2, _, none⟩) l2).trans k3, (h.cell (p := ⟨b2, _, none⟩) l2).trans k4, (h.cell (p := ⟨b2, _, none⟩) l2).trans k5, (h.cell (p := ⟨b2, _, none⟩) l2).trans k6, h⟩
        have HS := Lib.hid hS
        clear hS
        go_region_held3 (fun W' => W'.cell? ⟨b1, o1 + k * 7, none⟩ = some (.int .i64 x.kind) ∧ W'.cell? ⟨b1, o1 + k * 7 + 1, none⟩ = some (.string x.name) ∧ W'.cell? ⟨b1, o1 + k * 7 + 2, none⟩ = some (.string x.op) ∧ W'.cell? ⟨b1, o1 + k * 7 + 3, none⟩ = some (.slice pa x.parts.length pc) ∧ W'.cell? ⟨b1, o1 + k * 7 + 4, none⟩ = some (.int .i64 x.party) ∧ W'.cell? ⟨b1, o1 + k * 7 + 5, none⟩ = some (.int .i64 x.width) ∧ W'.cell? ⟨b1, o1 + k * 7 + 6, none⟩ = some (.int .i64 x.value) ∧ W'.cell? ⟨b2, o2 + k * 7, none⟩ = some (.int .i64 x.kind) ∧ W'.cell? ⟨b2, o2 + k * 7 + 1, none⟩ = some (.string x.name) ∧ W'.cell? ⟨b2, o2 + k * 7 + 2, none⟩ = some (.string x.op) ∧ W'.cell? ⟨b2, o2 + k * 7 + 3, none⟩ = some (.slice pb x.parts.length qc) ∧ W'.cell? ⟨b2, o2 + k * 7 + 4, none⟩ = some (.int .i64 x.party) ∧ W'.cell? ⟨b2, o2 + k * 7 + 5, none⟩ = some (.int .i64 x.width) ∧ W'.cell? ⟨b2, o2 + k * 7 + 6, none⟩ = some (.int .i64 x.value) ∧ Below wq.heap.size wq W') (exact HS.out _ (by repeat (first | exact Below.refl _ _ | apply below_drew | (refine Below.alloc ?_ (by simp <;> omega) _) | (refine Below.setCell ?_ (by show wq.heap.size ≤ _; simp <;> omega) _)))) (fail)
        all_goals go_wp2_with fail
        all_goals go_meet
        all_goals first
          | exact ⟨_, _, rfl, rfl, blk_alloc (heap_alloc_new wq _) _, alloc_new2 wq _ _, below_drew (((Below.refl _ _).alloc (Nat.le_refl _) _).alloc (by simp) _)⟩
          | exact ⟨_, _, rfl, rfl, alloc_new2 wq _ _, blk_alloc (heap_alloc_new wq _) _, below_drew (((Below.refl _ _).alloc (Nat.le_refl _) _).alloc (by simp) _)⟩
      case rest =>
        obtain ⟨p, q, rfl, rfl, hp, hq, hbx⟩ := hcut
        obtain ⟨⟨c0, c1, c2, c3, c4, c5, c6⟩, -⟩ := seven_cells hp
        obtain ⟨⟨d0, d1, d2, d3, d4, d5, d6⟩, -⟩ := seven_cells hq
        clear g0 g1 g2 g3 g4 g5 g6 k0 k1 k2 k3 k4 k5 k6
        go_wp2_with fail
        refine (qTexts_same _ _ _ _ _ _ _ _ _ (hps.below hbx (by omega)) (hqs.below hbx (by omega)) (Nat.le_trans hB (Nat.le_trans hz hbx.size)) (Nat.le_trans hC (Nat.le_trans hz hbx.size))).mono ?_
        rintro e w3 ⟨rfl, hb3⟩
        go_wp2_with fail
        go_roundw
        case rel => exact ⟨k + 1, by omega, by go_num, (hbel.trans (hbx.mono hz)).trans (hb3.mono (Nat.le_trans hz hbx.size))⟩
        case measure => simp [intOf] <;> omega
    · obtain rfl : k = n := by omega
      go_wp2
      go_ret
      exact ⟨rfl, hbel⟩
end Go.Proofs.Ytdlddkgmjpmenaa
