/-
  The cursor that draws from bytes: every draw ends, gives a number in its range, and turns nothing but the cursor's own block.
-/
import Derived.Test.YtilkgidilhgjeaaBase
namespace Go.Proofs.Ytilkgidilhgjeaa
open Go.RowKit

/-- A cursor in block b that has read at most m times: the code behind it lies in older blocks. -/
def Cur (w : World) (b m : Nat) : Prop := ∃ (ao : Option Addr) (n cap : Nat) (bs : List Int) (p : Nat) (seed : Int),
  w.heap[b]? = some (.cells #[.slice ao n cap, .int .i64 p, .int .u64 seed] 93 (0, 0)) ∧ p ≤ m ∧ m ≤ 1000000000000 ∧ 0 ≤ seed ∧ seed < 18446744073709551616 ∧ bs.length = n ∧ n ≤ 1000000000 ∧ (∀ x ∈ bs, 0 ≤ x ∧ x ≤ 255) ∧ CellsAt w b ao (bs.map (Value.int .u8))
theorem Cur.more {w : World} {b m m' : Nat} (h : Cur w b m) (hm : m ≤ m') (hm' : m' ≤ 1000000000000) : Cur w b m' := by
  obtain ⟨ao, n, cap, bs, p, seed, h1, h2, h3, h4⟩ := h
  exact ⟨ao, n, cap, bs, p, seed, h1, by omega, hm', h4⟩
theorem Cur.lt {w : World} {b m : Nat} (h : Cur w b m) : b < w.heap.size := by
  obtain ⟨ao, n, cap, bs, p, seed, h1, _⟩ := h
  exact lt_of_block h1
theorem Cur.below {w w' : World} {b m C : Nat} (h : Cur w b m) (hb : Below C w w') (hC : b < C) : Cur w' b m := by
  obtain ⟨ao, n, cap, bs, p, seed, h1, h2, h3, h4, h5, h6, h7, h8, h9⟩ := h
  exact ⟨ao, n, cap, bs, p, seed, by rw [hb.block b hC]; exact h1, h2, h3, h4, h5, h6, h7, h8, h9.below hb (by omega)⟩
theorem Cur.drewN {w : World} {b m : Nat} (h : Cur w b m) (k : Nat) : Cur (w.drewN k) b m := h
/-- Only block b has turned. -/
theorem gtrans {a b c : World} {r : Option Nat} (h : a.grownBy b r) (k : b.grownBy c r) : a.grownBy c r :=
  ⟨k.os.trans h.os, k.tape.trans h.tape, k.output.trans h.output, Nat.le_trans h.size k.size, fun i hi hne => (k.block i (Nat.lt_of_lt_of_le hi h.size) hne).trans (h.block i hi hne)⟩
theorem gbelow {a b c : World} {r : Option Nat} (h : a.grownBy b r) (k : Below b.heap.size b c) : a.grownBy c r :=
  ⟨k.os.trans h.os, k.tape.trans h.tape, k.output.trans h.output, Nat.le_trans h.size k.size, fun i hi hne => (k.block i (Nat.lt_of_lt_of_le hi h.size)).trans (h.block i hi hne)⟩
theorem g_of_below {a b : World} (k : Below a.heap.size a b) (r : Option Nat) : a.grownBy b r := ⟨k.os, k.tape, k.output, k.size, fun i hi _ => k.block i hi⟩
theorem gset (w : World) (b o : Nat) (v : Value) : w.grownBy (w.setCell ⟨b, o, none⟩ v) (some b) :=
  ⟨rfl, rfl, rfl, by simp [World.setCell], fun k _ hk => heap_setCell_other w ⟨b, o, none⟩ k v (fun e => hk (by simp [e]))⟩
theorem gdrewN {a b : World} {r : Option Nat} (h : a.grownBy b r) (n : Nat) : a.grownBy (b.drewN n) r := ⟨h.os, h.tape, h.output, h.size, h.block⟩
/-- A draw: a number of a range back. -/
def Drew (lo hi : Int) (b m : Nat) (w : World) (e : Ending) (w' : World) : Prop := ∃ r : Int, lo ≤ r ∧ r ≤ hi ∧ e = .returned (.int .i64 r) ∧ Cur w' b m ∧ w.grownBy w' (some b)

theorem and255 (x : Int) (h0 : 0 ≤ x) (h1 : x < 18446744073709551616) : 0 ≤ bits .and .u64 x 255 ∧ bits .and .u64 x 255 ≤ 255 := by
  rw [u64_and x 255 h0 h1 (by decide) (by decide)]
  have : x.toNat &&& (255 : Int).toNat ≤ 255 := Nat.and_le_right
  omega
/-- The cursor's block cell by cell. -/
structure CurAt (w : World) (b : Nat) (ao : Option Addr) (n cap : Nat) (p seed : Int) : Prop where
  blk : w.heap[b]? = some (.cells #[.slice ao n cap, .int .i64 p, .int .u64 seed] 93 (0, 0))
  c0 : w.cell? ⟨b, 0, none⟩ = some (.slice ao n cap)
  c1 : w.cell? ⟨b, 1, none⟩ = some (.int .i64 p)
  c2 : w.cell? ⟨b, 2, none⟩ = some (.int .u64 seed)
  f1 : w.frozen? ⟨b, 1, none⟩ = false
  f2 : w.frozen? ⟨b, 2, none⟩ = false
theorem CurAt.mk' {w : World} {b : Nat} {ao : Option Addr} {n cap : Nat} {p seed : Int} (h1 : w.heap[b]? = some (.cells #[.slice ao n cap, .int .i64 p, .int .u64 seed] 93 (0, 0))) : CurAt w b ao n cap p seed :=
  ⟨h1, by rw [cell_of_row w b 0 _ _ (0, 0) h1]; rfl, by rw [cell_of_row w b 1 _ _ (0, 0) h1]; rfl, by rw [cell_of_row w b 2 _ _ (0, 0) h1]; rfl, frozen_of_row w b 1 _ _ h1, frozen_of_row w b 2 _ _ h1⟩
theorem CurAt.drewN {w : World} {b : Nat} {ao : Option Addr} {n cap : Nat} {p seed : Int} (h : CurAt w b ao n cap p seed) (k : Nat) : CurAt (w.drewN k) b ao n cap p seed := .mk' h.blk
theorem CurAt.at {w : World} {b : Nat} {ao : Option Addr} {n cap : Nat} {p seed : Int} (h : CurAt w b ao n cap p seed) (q : Int) : CurAt (w.setCell ⟨b, 1, none⟩ (.int .i64 q)) b ao n cap q seed := by
  refine .mk' ?_
  rw [heap_setCell_same w b 1 _ _ _ h.blk]
  rfl
theorem CurAt.seed {w : World} {b : Nat} {ao : Option Addr} {n cap : Nat} {p seed : Int} (h : CurAt w b ao n cap p seed) (q : Int) : CurAt (w.setCell ⟨b, 2, none⟩ (.int .u64 q)) b ao n cap p q := by
  refine .mk' ?_
  rw [heap_setCell_same w b 2 _ _ _ h.blk]
  rfl
theorem u64_in (x : Int) : 0 ≤ IntKind.u64.wrap x ∧ IntKind.u64.wrap x < 18446744073709551616 := by rw [IntKind.wrap_u64]; omega
theorem CurAt.cur {w : World} {b : Nat} {ao : Option Addr} {n cap : Nat} {p : Nat} {seed : Int} (h : CurAt w b ao n cap p seed) {m : Nat} {bs : List Int} (hm : p ≤ m) (hm2 : m ≤ 1000000000000) (hs : 0 ≤ seed ∧ seed < 18446744073709551616) (hl : bs.length = n) (hn : n ≤ 1000000000)
    (hb : ∀ x ∈ bs, 0 ≤ x ∧ x ≤ 255) (hc : CellsAt w b ao (bs.map (Value.int .u8))) : Cur w b m := ⟨ao, n, cap, bs, p, seed, h.blk, hm, hm2, hs.1, hs.2, hl, hn, hb, hc⟩
theorem CellsAt.gset {w : World} {b : Nat} {ao : Option Addr} {vs : List Value} (h : CellsAt w b ao vs) (o : Nat) (v : Value) : CellsAt (w.setCell ⟨b, o, none⟩ v) b ao vs :=
  h.below (C := b) ⟨rfl, rfl, rfl, by simp [World.setCell], fun k hk => heap_setCell_other w ⟨b, o, none⟩ k v (by simp; omega)⟩ (Nat.le_refl _)
theorem next_any (w : World) (b m : Nat) (hc : Cur w b m) (hm : m < 1000000000000) :
    Calls Try.prog 105 #[.pointer (some ⟨b, 0, none⟩)] w (Drew 0 255 b (m + 1) w) := by
  obtain ⟨ao, n, cap, bs, p, seed, h1, h2, h3, h4, h5, h6, h7, h8, h9⟩ := hc
  have hC := CurAt.mk' h1
  have ⟨H1, c0, c1, c2, f1, f2⟩ := hC
  clear H1 h1
  have HC := Lib.hid hC
  have H6 := Lib.hid h6
  have H8 := Lib.hid h8
  have H9 := Lib.hid h9
  by_cases hlt : p < n
  · obtain ⟨b1, o1, x, rfl, hb1, hx, hc1⟩ : ∃ b1 o1 x, ao = some ⟨b1, o1, none⟩ ∧ b1 < b ∧ bs[p]? = some x ∧ w.cell? ⟨b1, o1 + p, none⟩ = some (.int .u8 x) := by
      rcases h9 with h0 | ⟨b1, o1, e, hlt1, hcell⟩
      · simp at h0; subst h0; simp at h6; omega
      · exact ⟨b1, o1, bs[p], e, hlt1, by simp [h6, hlt], hcell p _ (by simp [h6, hlt])⟩
    have hxb := h8 x (List.mem_of_getElem? hx)
    clear h6 h8 h9 hx
    go_enter Try.func105, Try.ntmps105
    go_wp2_with fail
    go_quiet (fail)
    obtain ⟨nq1, hnq1⟩ : ∃ q, q = nq := ⟨_, rfl⟩
    subst hnq1
    go_wp2_with fail
    go_quiet (fail)
    go_wp2_with fail
    have hlt2 : (p : Int) + 1 ≤ n := by omega
    have hsd := u64_in (IntKind.u64.wrap (IntKind.u64.wrap (seed * 6364136223846793005) + x) + 1442695040888963407)
    generalize IntKind.u64.wrap (IntKind.u64.wrap (IntKind.u64.wrap (seed * 6364136223846793005) + x) + 1442695040888963407) = sd at *
    have hC2 := ((HC.out.drewN (nq1 + nq)).at (p + 1)).seed sd
    have hG := gtrans (gtrans (gdrewN (World.grownBy.refl w (some b)) (nq1 + nq)) (gset _ b 1 (.int .i64 (p + 1)))) (gset _ b 2 (.int .u64 sd))
    have hA := ((H9.out.below (bdrewN (Below.refl b w) (nq1 + nq)) (Nat.le_refl _)).gset 1 (.int .i64 (p + 1))).gset 2 (.int .u64 sd)
    generalize ((w.drewN (nq1 + nq)).setCell { block := b, off := 1 } (Value.int IntKind.i64 (p + 1))).setCell { block := b, off := 2 } (Value.int IntKind.u64 sd) = w2 at *
    have HC2 := Lib.hid hC2
    clear c0 c1 c2 f1 f2
    obtain ⟨H1, c0, c1, c2, f1, f2⟩ := hC2
    clear H1
    go_quiet (fail)
    go_wp2_with fail
    go_ret
    exact ⟨_, hxb.1, hxb.2, rfl, (CurAt.cur (p := p + 1) (by simpa using HC2.out) (by omega) (by omega) hsd H6.out h7 H8.out hA).drewN _, gdrewN hG _⟩
  · have hlt' : ¬ (p : Int) < n := by omega
    have hlt2 : ¬ (p : Int) + 1 ≤ n := by omega
    clear h6 h8 h9 hC
    go_enter Try.func105, Try.ntmps105
    go_wp2_with fail
    go_quiet (fail)
    go_wp2_with fail
    have hsd := u64_in (IntKind.u64.wrap (IntKind.u64.wrap (seed * 6364136223846793005)) + 1442695040888963407)
    generalize IntKind.u64.wrap (IntKind.u64.wrap (IntKind.u64.wrap (seed * 6364136223846793005)) + 1442695040888963407) = sd at *
    have hC2 := ((HC.out.drewN nq).at (p + 1)).seed sd
    have HC2 := Lib.hid hC2
    have hG := gtrans (gtrans (gdrewN (World.grownBy.refl w (some b)) nq) (gset _ b 1 (.int .i64 (p + 1)))) (gset _ b 2 (.int .u64 sd))
    have hA := ((H9.out.below (bdrewN (Below.refl b w) nq) (Nat.le_refl _)).gset 1 (.int .i64 (p + 1))).gset 2 (.int .u64 sd)
    generalize ((w.drewN nq).setCell { block := b, off := 1 } (Value.int IntKind.i64 (p + 1))).setCell { block := b, off := 2 } (Value.int IntKind.u64 sd) = w2 at *
    clear c0 c1 c2 f1 f2
    obtain ⟨H1, c0, c1, c2, f1, f2⟩ := hC2
    clear H1
    have hand := and255 (sd / 1099511627776) (by omega) (by omega)
    go_quiet (fail)
    go_wp2_with fail
    go_ret
    exact ⟨_, hand.1, hand.2, by first | rfl | (congr 2; simp [wrap64]; omega), (CurAt.cur (p := p + 1) (by simpa using HC2.out) (by omega) (by omega) hsd H6.out h7 H8.out hA).drewN _, gdrewN hG _⟩
end Go.Proofs.Ytilkgidilhgjeaa
