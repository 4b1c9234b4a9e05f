/-
  The cursor that draws from bytes: every draw ends, gives a number in its range, and turns nothing but the cursor's own block.
-/
import Derived.Test.YtdlddkgmjpmenaaGreatDoorHB
import Derived.Laws.BytesArg
import Derived.Deep.AppendLies
namespace Go.Proofs.YtdlddkgmjpmenaaGreatDoor
open Go.RowKit

/-- A cursor in block b that has read at most m times: the code behind it lies in older blocks. -/
def Cur (w : World) (b m : Nat) : Prop := ∃ (ao : Option Addr) (n cap : Nat) (bs : List Int) (p : Nat) (seed : Int),
  w.heap[b]? = some (.cells #[.slice ao n cap, .int .i64 p, .int .u64 seed] 60 (0, 0)) ∧ p ≤ m ∧ m ≤ 1000000000000 ∧ 0 ≤ seed ∧ seed < 18446744073709551616 ∧ bs.length = n ∧ n ≤ 9223372036854775807 ∧ (∀ x ∈ bs, 0 ≤ x ∧ x ≤ 255) ∧ CellsAt w b ao (bs.map (Value.int .u8))
theorem Cur.more {w : World} {b m m' : Nat} (h : Cur w b m) (hm : m ≤ m') (hm' : m' ≤ 1000000000000) : Cur w b m' := by
  obtain ⟨ao, n, cap, bs, p, seed, h1, h2, h3, h4⟩ := h
  exact ⟨ao, n, cap, bs, p, seed, h1, by omega, hm', h4⟩
theorem Cur.lt {w : World} {b m : Nat} (h : Cur w b m) : b < w.heap.size := by
  obtain ⟨ao, n, cap, bs, p, seed, h1, _⟩ := h
  exact lt_of_block h1
theorem Cur.below {w w' : World} {b m C : Nat} (h : Cur w b m) (hb : Below C w w') (hC : b < C) : Cur w' b m := by
  obtain ⟨ao, n, cap, bs, p, seed, h1, h2, h3, h4, h5, h6, h7, h8, h9⟩ := h
  exact ⟨ao, n, cap, bs, p, seed, by rw [hb.block b hC]; exact h1, h2, h3, h4, h5, h6, h7, h8, h9.below hb (by omega)⟩
theorem Cur.drewN {w : World} {b m : Nat} (h : Cur w b m) (k : Nat) : Cur (w.drewN k) b m := h
/-- Only block b has turned. -/
theorem gtrans {a b c : World} {r : Option Nat} (h : a.grownBy b r) (k : b.grownBy c r) : a.grownBy c r :=
  ⟨k.os.trans h.os, k.tape.trans h.tape, k.output.trans h.output, Nat.le_trans h.size k.size, fun i hi hne => (k.block i (Nat.lt_of_lt_of_le hi h.size) hne).trans (h.block i hi hne)⟩
theorem gbelow {a b c : World} {r : Option Nat} (h : a.grownBy b r) (k : Below b.heap.size b c) : a.grownBy c r :=
  ⟨k.os.trans h.os, k.tape.trans h.tape, k.output.trans h.output, Nat.le_trans h.size k.size, fun i hi hne => (k.block i (Nat.lt_of_lt_of_le hi h.size)).trans (h.block i hi hne)⟩
theorem g_of_below {a b : World} (k : Below a.heap.size a b) (r : Option Nat) : a.grownBy b r := ⟨k.os, k.tape, k.output, k.size, fun i hi _ => k.block i hi⟩
theorem gset (w : World) (b o : Nat) (v : Value) : w.grownBy (w.setCell ⟨b, o, none⟩ v) (some b) :=
  ⟨rfl, rfl, rfl, by simp [World.setCell], fun k _ hk => heap_setCell_other w ⟨b, o, none⟩ k v (fun e => hk (by simp [e]))⟩
theorem gdrewN {a b : World} {r : Option Nat} (h : a.grownBy b r) (n : Nat) : a.grownBy (b.drewN n) r := ⟨h.os, h.tape, h.output, h.size, h.block⟩
/-- A draw: a number of a range back. -/
def Drew (lo hi : Int) (b m : Nat) (w : World) (e : Ending) (w' : World) : Prop := ∃ r : Int, lo ≤ r ∧ r ≤ hi ∧ e = .returned (.int .i64 r) ∧ Cur w' b m ∧ w.grownBy w' (some b)

theorem and255 (x : Int) (h0 : 0 ≤ x) (h1 : x < 18446744073709551616) : 0 ≤ bits .and .u64 x 255 ∧ bits .and .u64 x 255 ≤ 255 := by
  rw [u64_and x 255 h0 h1 (by decide) (by decide)]
  have : x.toNat &&& (255 : Int).toNat ≤ 255 := Nat.and_le_right
  omega
/-- The cursor's block cell by cell. -/
structure CurAt (w : World) (b : Nat) (ao : Option Addr) (n cap : Nat) (p seed : Int) : Prop where
  blk : w.heap[b]? = some (.cells #[.slice ao n cap, .int .i64 p, .int .u64 seed] 60 (0, 0))
  c0 : w.cell? ⟨b, 0, none⟩ = some (.slice ao n cap)
  c1 : w.cell? ⟨b, 1, none⟩ = some (.int .i64 p)
  c2 : w.cell? ⟨b, 2, none⟩ = some (.int .u64 seed)
  f1 : w.frozen? ⟨b, 1, none⟩ = false
  f2 : w.frozen? ⟨b, 2, none⟩ = false
theorem CurAt.mk' {w : World} {b : Nat} {ao : Option Addr} {n cap : Nat} {p seed : Int} (h1 : w.heap[b]? = some (.cells #[.slice ao n cap, .int .i64 p, .int .u64 seed] 60 (0, 0))) : CurAt w b ao n cap p seed :=
  ⟨h1, by rw [cell_of_row w b 0 _ _ (0, 0) h1]; rfl, by rw [cell_of_row w b 1 _ _ (0, 0) h1]; rfl, by rw [cell_of_row w b 2 _ _ (0, 0) h1]; rfl, frozen_of_row w b 1 _ _ h1, frozen_of_row w b 2 _ _ h1⟩
theorem CurAt.drewN {w : World} {b : Nat} {ao : Option Addr} {n cap : Nat} {p seed : Int} (h : CurAt w b ao n cap p seed) (k : Nat) : CurAt (w.drewN k) b ao n cap p seed := .mk' h.blk
theorem CurAt.at {w : World} {b : Nat} {ao : Option Addr} {n cap : Nat} {p seed : Int} (h : CurAt w b ao n cap p seed) (q : Int) : CurAt (w.setCell ⟨b, 1, none⟩ (.int .i64 q)) b ao n cap q seed := by
  refine .mk' ?_
  rw [heap_setCell_same w b 1 _ _ _ h.blk]
  rfl
theorem CurAt.seed {w : World} {b : Nat} {ao : Option Addr} {n cap : Nat} {p seed : Int} (h : CurAt w b ao n cap p seed) (q : Int) : CurAt (w.setCell ⟨b, 2, none⟩ (.int .u64 q)) b ao n cap p q := by
  refine .mk' ?_
  rw [heap_setCell_same w b 2 _ _ _ h.blk]
  rfl
theorem u64_in (x : Int) : 0 ≤ IntKind.u64.wrap x ∧ IntKind.u64.wrap x < 18446744073709551616 := by rw [IntKind.wrap_u64]; omega
theorem CurAt.cur {w : World} {b : Nat} {ao : Option Addr} {n cap : Nat} {p : Nat} {seed : Int} (h : CurAt w b ao n cap p seed) {m : Nat} {bs : List Int} (hm : p ≤ m) (hm2 : m ≤ 1000000000000) (hs : 0 ≤ seed ∧ seed < 18446744073709551616) (hl : bs.length = n) (hn : n ≤ 9223372036854775807)
    (hb : ∀ x ∈ bs, 0 ≤ x ∧ x ≤ 255) (hc : CellsAt w b ao (bs.map (Value.int .u8))) : Cur w b m := ⟨ao, n, cap, bs, p, seed, h.blk, hm, hm2, hs.1, hs.2, hl, hn, hb, hc⟩
theorem CellsAt.gset {w : World} {b : Nat} {ao : Option Addr} {vs : List Value} (h : CellsAt w b ao vs) (o : Nat) (v : Value) : CellsAt (w.setCell ⟨b, o, none⟩ v) b ao vs :=
  h.below (C := b) ⟨rfl, rfl, rfl, by simp [World.setCell], fun k hk => heap_setCell_other w ⟨b, o, none⟩ k v (by simp; omega)⟩ (Nat.le_refl _)
theorem next_any (w : World) (b m : Nat) (hc : Cur w b m) (hm : m < 1000000000000) :
    Calls Tryz.prog 101 #[.pointer (some ⟨b, 0, none⟩)] w (Drew 0 255 b (m + 1) w) := by
  obtain ⟨ao, n, cap, bs, p, seed, h1, h2, h3, h4, h5, h6, h7, h8, h9⟩ := hc
  have hC := CurAt.mk' h1
  have ⟨H1, c0, c1, c2, f1, f2⟩ := hC
  clear H1 h1
  have HC := Lib.hid hC
  have H6 := Lib.hid h6
  have H8 := Lib.hid h8
  have H9 := Lib.hid h9
  by_cases hlt : p < n
  · obtain ⟨b1, o1, x, rfl, hb1, hx, hc1⟩ : ∃ b1 o1 x, ao = some ⟨b1, o1, none⟩ ∧ b1 < b ∧ bs[p]? = some x ∧ w.cell? ⟨b1, o1 + p, none⟩ = some (.int .u8 x) := by
      rcases h9 with h0 | ⟨b1, o1, e, hlt1, hcell⟩
      · simp at h0; subst h0; simp at h6; omega
      · exact ⟨b1, o1, bs[p], e, hlt1, by simp [h6, hlt], hcell p _ (by simp [h6, hlt])⟩
    have hxb := h8 x (List.mem_of_getElem? hx)
    clear h6 h8 h9 hx
    go_enter Tryz.func101, Tryz.ntmps101
    go_wp2_with fail
    go_quiet (fail)
    obtain ⟨nq1, hnq1⟩ : ∃ q, q = nq := ⟨_, rfl⟩
    subst hnq1
    go_wp2_with fail
    go_quiet (fail)
    go_wp2_with fail
    have hlt2 : (p : Int) + 1 ≤ n := by omega
    have hsd := u64_in (IntKind.u64.wrap (IntKind.u64.wrap (seed * 6364136223846793005) + x) + 1442695040888963407)
    generalize IntKind.u64.wrap (IntKind.u64.wrap (IntKind.u64.wrap (seed * 6364136223846793005) + x) + 1442695040888963407) = sd at *
    have hC2 := ((HC.out.drewN (nq1 + nq)).at (p + 1)).seed sd
    have hG := gtrans (gtrans (gdrewN (World.grownBy.refl w (some b)) (nq1 + nq)) (gset _ b 1 (.int .i64 (p + 1)))) (gset _ b 2 (.int .u64 sd))
    have hA := ((H9.out.below (bdrewN (Below.refl b w) (nq1 + nq)) (Nat.le_refl _)).gset 1 (.int .i64 (p + 1))).gset 2 (.int .u64 sd)
    generalize ((w.drewN (nq1 + nq)).setCell { block := b, off := 1 } (Value.int IntKind.i64 (p + 1))).setCell { block := b, off := 2 } (Value.int IntKind.u64 sd) = w2 at *
    have HC2 := Lib.hid hC2
    clear c0 c1 c2 f1 f2
    obtain ⟨H1, c0, c1, c2, f1, f2⟩ := hC2
    clear H1
    go_quiet (fail)
    go_wp2_with fail
    go_ret
    exact ⟨_, hxb.1, hxb.2, rfl, (CurAt.cur (p := p + 1) (by simpa using HC2.out) (by omega) (by omega) hsd H6.out h7 H8.out hA).drewN _, gdrewN hG _⟩
  · have hlt' : ¬ (p : Int) < n := by omega
    have hlt2 : ¬ (p : Int) + 1 ≤ n := by omega
    clear h6 h8 h9 hC
    go_enter Tryz.func101, Tryz.ntmps101
    go_wp2_with fail
    go_quiet (fail)
    go_wp2_with fail
    have hsd := u64_in (IntKind.u64.wrap (IntKind.u64.wrap (seed * 6364136223846793005)) + 1442695040888963407)
    generalize IntKind.u64.wrap (IntKind.u64.wrap (IntKind.u64.wrap (seed * 6364136223846793005)) + 1442695040888963407) = sd at *
    have hC2 := ((HC.out.drewN nq).at (p + 1)).seed sd
    have HC2 := Lib.hid hC2
    have hG := gtrans (gtrans (gdrewN (World.grownBy.refl w (some b)) nq) (gset _ b 1 (.int .i64 (p + 1)))) (gset _ b 2 (.int .u64 sd))
    have hA := ((H9.out.below (bdrewN (Below.refl b w) nq) (Nat.le_refl _)).gset 1 (.int .i64 (p + 1))).gset 2 (.int .u64 sd)
    generalize ((w.drewN nq).setCell { block := b, off := 1 } (Value.int IntKind.i64 (p + 1))).setCell { block := b, off := 2 } (Value.int IntKind.u64 sd) = w2 at *
    clear c0 c1 c2 f1 f2
    obtain ⟨H1, c0, c1, c2, f1, f2⟩ := hC2
    clear H1
    have hand := and255 (sd / 1099511627776) (by omega) (by omega)
    go_quiet (fail)
    go_wp2_with fail
    go_ret
    exact ⟨_, hand.1, hand.2, by first | rfl | (congr 2; simp [wrap64]; omega), (CurAt.cur (p := p + 1) (by simpa using HC2.out) (by omega) (by omega) hsd H6.out h7 H8.out hA).drewN _, gdrewN hG _⟩
end Go.Proofs.YtdlddkgmjpmenaaGreatDoor
/-
  Chapter 1, the words of bits: numbers of bits, bits of numbers, weights, parities. Each pair of functions (reference, program) answers by one Lean function.
-/
namespace Go.Proofs.YtdlddkgmjpmenaaGreatDoor
open Go.RowKit

/-- The number of bits, the first the least. -/
def numL (xs : List Int) : Int := xs.foldr (fun b a => 2 * a + b) 0
theorem numL_cons (b : Int) (xs : List Int) : numL (b :: xs) = 2 * numL xs + b := rfl
theorem numL_append (xs : List Int) (b : Int) : numL (xs ++ [b]) = numL xs + 2 ^ xs.length * b := by
  induction xs with
  | nil => simp [numL]
  | cons x xs ih => rw [List.cons_append, numL_cons, ih, numL_cons, List.length_cons, Int.pow_succ]; rw [Int.mul_add, Int.mul_comm (2 ^ xs.length) 2, Int.mul_assoc]; omega
theorem numL_range (xs : List Int) (h : ∀ x ∈ xs, 0 ≤ x ∧ x ≤ 1) : 0 ≤ numL xs ∧ numL xs < 2 ^ xs.length := by
  induction xs with
  | nil => simp [numL]
  | cons x xs ih =>
    have hx := h x (by simp)
    have := ih fun y hy => h y (by simp [hy])
    rw [numL_cons, List.length_cons, Int.pow_succ]
    omega
theorem numL_drop {xs : List Int} {j : Nat} {x : Int} (hx : xs[j]? = some x) : numL (xs.drop j) = 2 * numL (xs.drop (j + 1)) + x := by
  have hj : j < xs.length := (List.getElem?_eq_some_iff.1 hx).1
  rw [List.drop_eq_getElem_cons hj, numL_cons]
  have : xs[j] = x := by rw [List.getElem?_eq_getElem hj] at hx; simpa using hx
  rw [this]
theorem pow_le_16 {n : Nat} (h : n ≤ 16) : (2 : Int) ^ n ≤ 65536 := by
  have := Nat.pow_le_pow_right (n := 2) (by decide) h
  have h2 : ((2 ^ n : Nat) : Int) ≤ ((2 ^ 16 : Nat) : Int) := by exact_mod_cast this
  simpa using h2
theorem numL_small {xs : List Int} {n : Nat} (hl : xs.length = n) (hn : n ≤ 16) (h : allIn 0 1 xs = true) (j : Nat) : 0 ≤ numL (xs.drop j) ∧ numL (xs.drop j) ≤ 65535 := by
  have h1 := numL_range (xs.drop j) fun x hx => allIn_iff.1 h x (List.mem_of_mem_drop hx)
  have h2 := pow_le_16 (n := (xs.drop j).length) (by simp; omega)
  omega
theorem numL_small_take {xs : List Int} {n : Nat} (hl : xs.length = n) (hn : n ≤ 16) (h : allIn 0 1 xs = true) (j : Nat) : 0 ≤ numL (xs.take j) ∧ numL (xs.take j) ≤ 65535 := by
  have h1 := numL_range (xs.take j) fun x hx => allIn_iff.1 h x (List.mem_of_mem_take hx)
  have h2 := pow_le_16 (n := (xs.take j).length) (by simp; omega)
  omega

/-- Bits, so many at most. -/
def goodB (xs : List Int) (most : Int) : Bool := decide ((xs.length : Int) ≤ most) && allIn 0 1 xs

theorem isBit_any (n : Int) (w : World) : Calls Tryz.prog 96 #[.int .i64 n] w fun e w' => e = .returned (.bool (inB n 0 1)) ∧ w = w' := by
  by_cases h0 : n = 0
  · subst h0
    go_enter Tryz.func96, Tryz.ntmps96
    go_wp2
    go_ret
    exact ⟨ret_bool (by simp [inB]), rfl⟩
  · have h1 : (n == 0) = false := by simpa using h0
    go_enter Tryz.func96, Tryz.ntmps96
    go_wp2
    go_ret
    exact ⟨ret_bool (by rw [Bool.eq_iff_iff, inB_iff]; simp; omega), rfl⟩
theorem pred_isBit (w : World) (xs : List Int) : Pred 96 #[] w (fun x => inB x 0 1) xs :=
  ⟨fun args W => by kernel_rfl, fun x _ W _ => (isBit_any x W).mono fun _ _ ⟨h1, h2⟩ => ⟨h1, by rw [h2]; exact Below.refl _ _⟩⟩
theorem or_step {xs : List Int} {n k : Nat} {x : Int} (hl : xs.length = n) (hn : n ≤ 16) (hb : allIn 0 1 xs = true) (hx : xs[k]? = some x) :
    bits .or .i64 (numL (xs.take k)) (wrap64 (x * 2 ^ k)) = numL (xs.take (k + 1)) := by
  have hk : k < xs.length := (List.getElem?_eq_some_iff.1 hx).1
  have hr := numL_range (xs.take k) fun y hy => allIn_iff.1 hb y (List.mem_of_mem_take hy)
  have hlk : (xs.take k).length = k := by simp; omega
  rw [hlk] at hr
  have hxb := allIn_iff.1 hb x (List.mem_of_getElem? hx)
  rw [List.take_add_one, hx, show (some x).toList = [x] from rfl, numL_append, hlk]
  obtain ⟨q, hq⟩ := Int.eq_ofNat_of_zero_le hr.1
  obtain ⟨y, rfl⟩ := Int.eq_ofNat_of_zero_le hxb.1
  rw [hq] at hr ⊢
  have hp : (2 : Int) ^ k = ((2 ^ k : Nat) : Int) := by simp
  rw [hp] at hr ⊢
  have hqk : q < 2 ^ k := by omega
  have hk16 : 2 ^ k ≤ 2 ^ 15 := Nat.pow_le_pow_right (by decide) (by omega)
  have hy : y ≤ 1 := by omega
  have hyk : y * 2 ^ k ≤ 2 ^ 15 := by
    rcases (show y = 0 ∨ y = 1 by omega) with rfl | rfl <;> omega
  rw [← Int.natCast_mul, IntWalk.wrap64_in _ ⟨by omega, by omega⟩, i64_or_nat _ _ (by omega) (by omega), Nat.or_comm, nat_join k (y * 2 ^ k) q (Nat.mul_mod_left _ _) hqk, ← Int.natCast_mul, Nat.mul_comm (2 ^ k) y]
  omega
/-- What NumberOf answers. -/
def numberOfF (xs : List Int) : Int × Bool := if goodB xs 16 = true then (numL xs, true) else (0, false)
theorem goodB_iff {xs : List Int} {m : Int} : goodB xs m = true ↔ (xs.length : Int) ≤ m ∧ allIn 0 1 xs = true := by simp [goodB]
end Go.Proofs.YtdlddkgmjpmenaaGreatDoor
/-
  Texts of bits: written and read.
-/
namespace Go.Proofs.YtdlddkgmjpmenaaGreatDoor
open Go.RowKit

theorem strOfNums_append (a b : List Int) : strOfNums a ++ strOfNums b = strOfNums (a ++ b) := by
  apply ByteArray.ext
  simp [strOfNums]
/-- The numbers of the letters of bits, the last bit first. -/
def digs (xs : List Int) : List Int := xs.reverse.map fun b => 48 + b
theorem digs_drop {xs : List Int} {j : Nat} {x : Int} (hx : xs[j]? = some x) : digs (xs.drop j) = digs (xs.drop (j + 1)) ++ [48 + x] := by
  have hj : j < xs.length := (List.getElem?_eq_some_iff.1 hx).1
  rw [List.drop_eq_getElem_cons hj]
  have : xs[j] = x := by rw [List.getElem?_eq_getElem hj] at hx; simpa using hx
  rw [this]; simp [digs]
theorem digs_length (xs : List Int) : (digs xs).length = xs.length := by simp [digs]

/-- The bytes cell by cell. -/
theorem byte_info : (Tryz.prog.info? 5).map (fun i => (i.zero, i.size, i.bytes)) = some (some (.int .u8 0), 1, 1) := by kernel_rfl
theorem str_conv (w : World) (b off len cap : Nat) (xs : List Int) (hlen : xs.length = len) (hcell : ∀ i, i < len → w.cell? ⟨b, off + i, none⟩ = some (.int .u8 (xs.getD i 0))) :
    (convert 28 9 (.slice (some ⟨b, off, none⟩) len cap)).run Tryz.prog w = .ok (.string (strOfNums xs)) w :=
  run_convert_bytes_arg w 28 5 Tryz.underlying28 Tryz.underlying5 b off len cap xs hlen hcell 9 Tryz.underlying9
theorem str_conv1 (w : World) (x : Int) : (convert 28 9 (.slice (some ⟨w.heap.size, 0, none⟩) 1 1)).run Tryz.prog (w.alloc (.cells #[.int .u8 x] 5)) = .ok (.string (strOfNums [x])) (w.alloc (.cells #[.int .u8 x] 5)) := by
  refine str_conv _ _ _ _ _ [x] rfl fun i hi => ?_
  obtain rfl : i = 0 := by omega
  rw [cell_of_row _ w.heap.size 0 #[.int .u8 x] 5 (0, 0) (heap_alloc_new w _)]; rfl
/-- What is owned as bytes reads as a text. -/
theorem str_own {B : Nat} {w : World} {ao : Option Addr} {n cap : Nat} {xs : List Int} (hl : xs.length = n) (h : OwnC 5 1 B w ao n cap (xs.map (Value.int .u8))) :
    (convert 28 9 (.slice ao n cap)).run Tryz.prog w = .ok (.string (strOfNums xs)) w := by
  rcases h.cellsAt with h0 | ⟨b, off, rfl, _, hc⟩
  · have hx : xs = [] := by simpa using h0
    subst hx
    subst hl
    cases ao with
    | none =>
      rw [run_convert_bytes_nil w 28 5 Tryz.underlying28 Tryz.underlying5 _ _ 9 Tryz.underlying9]
      rfl
    | some a =>
      have hl0 : (loadCells a 0).run Tryz.prog w = .ok #[] w := by simp [loadCells, loadCellsFrom]
      rw [run_convert_bytes_string w 28 9 5 _ _ _ Tryz.underlying28 Tryz.underlying5 Tryz.underlying9]
      have := run_bytesToString (P := Tryz.prog) w a 0 cap [] (by simpa using hl0)
      rw [show strOfNums [] = ByteArray.empty from rfl]
      simpa using this
  · refine str_conv _ _ _ _ _ xs hl fun i hi => ?_
    refine hc i _ ?_
    simp [List.getD, List.getElem?_eq_getElem (show i < xs.length by omega)]

set_option maxRecDepth 20000 in
theorem l1Num_digitX (n : Nat) (hn : n < 10) (w : World) : Calls Tryz.prog 71 #[.int .i64 n] w fun e w' => e = .returned (.string (strOfNums [48 + (n : Int)])) ∧ Below w.heap.size w w' := by
  have hcv := str_conv1 w (48 + (n : Int))
  have hb0 : Below w.heap.size w (w.alloc (.cells #[.int .u8 (48 + (n : Int))] 5)) := (Below.refl _ _).alloc (Nat.le_refl _) _
  obtain ⟨s1, hs1⟩ : ∃ s, s = strOfNums [48 + (n : Int)] := ⟨_, rfl⟩
  rw [← hs1] at hcv ⊢
  clear hs1
  go_enter Tryz.func71, Tryz.ntmps71
  go_wp2_with fail
  go_ret
  exact ⟨rfl, hb0⟩
/-- A text and a bool back. -/
def RetSB (r : ByteArray × Bool) (w : World) (e : Ending) (w' : World) : Prop := e = .returned (.tuple #[.string r.1, .bool r.2]) ∧ Below w.heap.size w w'
def bitsTextF (xs : List Int) : ByteArray × Bool := if goodB xs 64 = true then (strOfNums (digs xs), true) else (ByteArray.empty, false)
/-! ### Reading -/
def codes (l : List UInt8) : List Int := l.reverse.map fun c => (c.toNat : Int) - 48
/-- With -1 for letters that are none. -/
def codes1 (l : List UInt8) : List Int := l.reverse.map fun c => if inB ((c.toNat : Int) - 48) 0 1 = true then (c.toNat : Int) - 48 else -1
theorem codes_good (l : List UInt8) : allIn 0 1 (codes1 l) = allIn 0 1 (codes l) := by
  simp only [allIn, codes, codes1, List.all_map]
  congr 1
  funext c
  simp only [Function.comp_apply]
  cases h : inB ((c.toNat : Int) - 48) 0 1 <;> simp [h]; decide
theorem codes_eq {l : List UInt8} (h : allIn 0 1 (codes l) = true) : codes1 l = codes l := by
  simp only [codes, codes1]
  apply List.map_congr_left
  intro c hc
  have := allIn_iff.1 h ((c.toNat : Int) - 48) (by simp only [codes, List.mem_map]; exact ⟨c, hc, rfl⟩)
  rw [if_pos (inB_iff.2 this)]
theorem codes_drop {l : List UInt8} {j : Nat} {c : UInt8} (hx : l[j]? = some c) : codes (l.drop j) = codes (l.drop (j + 1)) ++ [(c.toNat : Int) - 48] := by
  have hj : j < l.length := (List.getElem?_eq_some_iff.1 hx).1
  rw [List.drop_eq_getElem_cons hj]
  have : l[j] = c := by rw [List.getElem?_eq_getElem hj] at hx; simpa using hx
  rw [this]; simp [codes]
theorem codes1_drop {l : List UInt8} {j : Nat} {c : UInt8} (hx : l[j]? = some c) : codes1 (l.drop j) = codes1 (l.drop (j + 1)) ++ [if inB ((c.toNat : Int) - 48) 0 1 = true then (c.toNat : Int) - 48 else -1] := by
  have hj : j < l.length := (List.getElem?_eq_some_iff.1 hx).1
  rw [List.drop_eq_getElem_cons hj]
  have : l[j] = c := by rw [List.getElem?_eq_getElem hj] at hx; simpa using hx
  rw [this]; simp [codes1]
theorem codes_length (l : List UInt8) : (codes l).length = l.length := by simp [codes]
theorem codes1_length (l : List UInt8) : (codes1 l).length = l.length := by simp [codes1]
def parseBitsF (s : ByteArray) : List Int × Bool := if goodB (codes s.data.toList) 64 = true then (codes s.data.toList, true) else ([], false)
theorem byte_atX (s : ByteArray) (k : Nat) (h : k < s.size) : s.data.toList[k]? = some s[k] := by
  rw [List.getElem?_eq_getElem (by simpa using h)]; rfl
theorem goodB_codes (l : List UInt8) (m : Int) : goodB (codes1 l) m = goodB (codes l) m := by simp [goodB, codes_good, codes_length, codes1_length]
end Go.Proofs.YtdlddkgmjpmenaaGreatDoor
/-
  Draws: numbers, choices, bits.
-/
namespace Go.Proofs.YtdlddkgmjpmenaaGreatDoor
open Go.RowKit
set_option linter.unusedVariables false
set_option linter.unusedSimpArgs false

theorem emod_bd {x n : Int} (hn : 1 ≤ n) : 0 ≤ x % n ∧ x % n ≤ n - 1 := by
  have := Int.emod_nonneg x (show n ≠ 0 by omega)
  have := Int.emod_lt_of_pos x (show 0 < n by omega)
  omega
theorem pick_any (w : World) (b m : Nat) (hc : Cur w b m) (hm : m + 2 ≤ 1000000000000) (n : Int) (hn : 1 ≤ n) (hn2 : n ≤ 65536) :
    Calls Tryz.prog 72 #[.pointer (some ⟨b, 0, none⟩), .int .i64 n] w (Drew 0 (n - 1) b (m + 2) w) := by
  by_cases h1 : n ≤ 1
  · go_enter Tryz.func72, Tryz.ntmps72
    go_wp2_with fail
    go_ret
    exact ⟨0, by omega, by omega, rfl, hc.more (by omega) hm, World.grownBy.refl w (some b)⟩
  · by_cases h2 : 200 < n
    · go_enter Tryz.func72, Tryz.ntmps72
      go_wp2_with fail
      refine (next_any _ _ _ hc (by omega)).mono ?_
      rintro e w1 ⟨r, hr0, hr1, rfl, hc1, hg1⟩
      go_wp2_with fail
      refine (next_any _ _ _ hc1 (by omega)).mono ?_
      rintro e w2 ⟨q, hq0, hq1, rfl, hc2, hg2⟩
      have hb := emod_bd (x := r * 256 + q) (n := n) (by omega)
      have hne : n ≠ 0 := by omega
      go_wp2_with fail
      go_ret
      exact ⟨_, hb.1, hb.2, rfl, hc2, gtrans hg1 hg2⟩
    · go_enter Tryz.func72, Tryz.ntmps72
      go_wp2_with fail
      refine (next_any _ _ _ hc (by omega)).mono ?_
      rintro e w1 ⟨r, hr0, hr1, rfl, hc1, hg1⟩
      have hb := emod_bd (x := r) (n := n) (by omega)
      have hne : n ≠ 0 := by omega
      go_wp2_with fail
      go_ret
      exact ⟨_, hb.1, hb.2, rfl, hc1.more (by omega) hm, hg1⟩
def DrewB (b m : Nat) (w : World) (e : Ending) (w' : World) : Prop := ∃ v : Bool, e = .returned (.bool v) ∧ Cur w' b m ∧ w.grownBy w' (some b)
theorem one_any (w : World) (b m : Nat) (hc : Cur w b m) (hm : m + 2 ≤ 1000000000000) (n : Int) (hn : 1 ≤ n) (hn2 : n ≤ 65536) :
    Calls Tryz.prog 42 #[.pointer (some ⟨b, 0, none⟩), .int .i64 n] w (DrewB b (m + 2) w) := by
  go_enter Tryz.func42, Tryz.ntmps42
  go_wp2_with fail
  refine (pick_any _ _ _ hc hm n hn hn2).mono ?_
  rintro e w1 ⟨r, hr0, hr1, rfl, hc1, hg1⟩
  go_wp2_with fail
  go_ret
  exact ⟨_, rfl, hc1, hg1⟩
def DrewM (xs : List Int) (b m : Nat) (w : World) (e : Ending) (w' : World) : Prop := ∃ r : Int, r ∈ xs ∧ e = .returned (.int .i64 r) ∧ Cur w' b m ∧ w.grownBy w' (some b)
theorem among_any (w : World) (b m : Nat) (hc : Cur w b m) (hm : m + 2 ≤ 1000000000000) (B : Nat) (ao : Option Addr) (n c : Nat) (xs : List Int) (ha : Ints w B ao n xs) (hB : B ≤ w.heap.size) (hn : 1 ≤ n) (hn2 : n ≤ 1000) (hfar : ∀ g o, ao = some ⟨g, o, none⟩ → g ≠ b) :
    Calls Tryz.prog 73 #[.pointer (some ⟨b, 0, none⟩), .slice ao n c] w (DrewM xs b (m + 2) w) := by
  go_enter Tryz.func73, Tryz.ntmps73
  go_wp2_with fail
  refine (pick_any _ _ _ hc hm n (by omega) (by omega)).mono ?_
  rintro e w1 ⟨r, hr0, hr1, rfl, hc1, hg1⟩
  obtain ⟨k, rfl⟩ := Int.eq_ofNat_of_zero_le hr0
  have hk : k < n := by omega
  obtain ⟨b1, o1, x, rfl, hb1, hx, hc2⟩ := ha.at hk
  have hne : b1 ≠ b := hfar b1 o1 rfl
  have q := (hg1.cell_far ⟨b1, o1 + k, none⟩ (by show b1 < w.heap.size; omega) (fun e => hne (by simpa using e))).trans hc2
  have hmem := List.mem_of_getElem? hx
  clear hx
  go_wp2_with fail
  go_ret
  exact ⟨_, hmem, rfl, hc1, hg1⟩
/-- A list is drawn. -/
def DrewI (S N b m : Nat) (w : World) (e : Ending) (w' : World) : Prop := ∃ (xs : List Int) (ao : Option Addr) (n cap : Nat), e = .returned (.slice ao n cap) ∧ OwnI S w' ao n cap xs ∧ n ≤ N ∧ Cur w' b m ∧ w.grownBy w' (some b)
theorem gown {a b c : World} {q : Option Nat} {row : Option Nat} (h : a.grownBy b q) (k : b.grownBy c row) (hr : ∀ p, row = some p → a.heap.size ≤ p) : a.grownBy c q :=
  ⟨k.os.trans h.os, k.tape.trans h.tape, k.output.trans h.output, Nat.le_trans h.size k.size, fun i hi hne => (k.block i (Nat.lt_of_lt_of_le hi h.size) (fun e => by have := hr i (by rw [e]); omega)).trans (h.block i hi hne)⟩
theorem Cur.grown {w w' : World} {b m : Nat} {row : Option Nat} (h : Cur w b m) (hg : w.grownBy w' row) (hr : ∀ p, row = some p → b < p) : Cur w' b m :=
  h.below (C := b + 1) ((Below.refl (b + 1) w).grown hg (by have := h.lt; omega) (fun p hp => by have := hr p hp; omega)) (Nat.lt_succ_self _)
/-- Bits are drawn. -/
def DrewBs (S N b m : Nat) (w : World) (e : Ending) (w' : World) : Prop := ∃ (xs : List Int) (ao : Option Addr) (n cap : Nat), e = .returned (.slice ao n cap) ∧ OwnI S w' ao n cap xs ∧ n ≤ N ∧ (∀ x ∈ xs, 0 ≤ x ∧ x ≤ 1) ∧ Cur w' b m ∧ w.grownBy w' (some b)
theorem bits_app {xs : List Int} {r : Int} (h : ∀ x ∈ xs, 0 ≤ x ∧ x ≤ 1) (h0 : 0 ≤ r) (h1 : r ≤ 1) : ∀ x ∈ xs ++ [r], 0 ≤ x ∧ x ≤ 1 := by
  intro x hx
  rw [List.mem_append] at hx
  rcases hx with hx | hx
  · exact h x hx
  · simp at hx; omega
end Go.Proofs.YtdlddkgmjpmenaaGreatDoor
/-
  Draws: any bits, and what the draw functions of the bits hand over.
-/
namespace Go.Proofs.YtdlddkgmjpmenaaGreatDoor
open Go.RowKit
set_option linter.unusedVariables false
set_option linter.unusedSimpArgs false

/-- The argument []byte of a law. -/
def BytesArg (W : World) (ao : Option Addr) (n : Nat) (zs : List Int) : Prop := zs.length = n ∧ n ≤ maxLen ∧ (∀ x ∈ zs, 0 ≤ x ∧ x ≤ 255) ∧ CellsAt W W.heap.size ao (zs.map (Value.int .u8))
theorem bytes_nil (W : World) : BytesArg W none 0 [] := ⟨rfl, Nat.zero_le _, by simp, .inl rfl⟩
theorem bytes_of_open {W : World} {x : Addr} {len cap : Nat} {zs : List Int} (hl : len ≤ cap) (hz : zs.length = cap) (hm : cap ≤ maxLen) (hcell : ∀ i, i < zs.length → W.cell? (x.add i) = some (.int .u8 (zs.getD i 0))) (hwz : ∀ n ∈ zs, (Lit.int .u8 n).wf = true) : BytesArg W (some x) len (zs.take len) := by
  refine ⟨by simp; omega, Nat.le_trans hl hm, fun y hy => ?_, ?_⟩
  · have h := hwz y (List.mem_of_mem_take hy)
    simp [Lit.wf, IntKind.min, IntKind.max, IntKind.signed, IntKind.bits] at h
    omega
  · rcases Nat.eq_zero_or_pos len with rfl | hp
    · left; simp
    · have h0 := hcell 0 (by omega)
      obtain ⟨b, off, spot⟩ := x
      have hspot : spot = none := by simpa [Addr.add] using World.cell?_spot h0
      subst hspot
      have hlt : b < W.heap.size := by
        have := World.block_lt_of_cell? W _ h0
        rw [Addr.add_lit] at this
        exact this
      refine .inr ⟨b, off, rfl, hlt, fun j u hu => ?_⟩
      have hj : j < len := by
        have := (List.getElem?_eq_some_iff.1 hu).1
        simp at this; omega
      have hc := hcell j (by omega)
      rw [Addr.add_lit] at hc
      rw [hc]
      have e : ((zs.take len).map (Value.int IntKind.u8))[j]? = some (.int .u8 (zs.getD j 0)) := by
        rw [List.getElem?_map, List.getElem?_take, if_pos hj]
        simp [List.getD, List.getElem?_eq_getElem (show j < zs.length by omega)]
      rw [e] at hu
      exact hu
/-- The same within a bound. -/
def Bytes (w : World) (B : Nat) (ao : Option Addr) (n : Nat) (zs : List Int) : Prop := zs.length = n ∧ n ≤ 9223372036854775807 ∧ (∀ x ∈ zs, 0 ≤ x ∧ x ≤ 255) ∧ CellsAt w B ao (zs.map (Value.int .u8))
theorem BytesArg.bytes {W : World} {ao : Option Addr} {n : Nat} {zs : List Int} (h : BytesArg W ao n zs) (hn : n ≤ 1048576) : Bytes W W.heap.size ao n zs := ⟨h.1, by omega, h.2.2.1, h.2.2.2⟩
theorem BytesArg.bytesAll {W : World} {ao : Option Addr} {n : Nat} {zs : List Int} (h : BytesArg W ao n zs) : Bytes W W.heap.size ao n zs := ⟨h.1, by have := h.2.1; unfold maxLen at this; omega, h.2.2.1, h.2.2.2⟩
theorem Bytes.below {w w' : World} {B C : Nat} {ao : Option Addr} {n : Nat} {xs : List Int} (h : Bytes w B ao n xs) (hb : Below C w w') (hC : B ≤ C) : Bytes w' B ao n xs := ⟨h.1, h.2.1, h.2.2.1, h.2.2.2.below hb hC⟩
theorem Bytes.up {w : World} {B C : Nat} {ao : Option Addr} {n : Nat} {xs : List Int} (h : Bytes w B ao n xs) (hC : B ≤ C) : Bytes w C ao n xs := ⟨h.1, h.2.1, h.2.2.1, h.2.2.2.up hC⟩
/-- The cursor is made. -/
theorem cur_new (w : World) (ao : Option Addr) (n cap : Nat) (bs : List Int) (h : Bytes w w.heap.size ao n bs) :
    ∃ W, W = w.alloc (.cells #[.slice ao n cap, .int .i64 0, .int .u64 0] 60) ∧ Cur W w.heap.size 0 ∧ Below w.heap.size w W ∧ w.heap.size < W.heap.size :=
  ⟨_, rfl, ⟨ao, n, cap, bs, 0, 0, heap_alloc_new w _, Nat.le_refl _, by decide, by decide, by decide, h.1, h.2.1, h.2.2.1, h.2.2.2.below ((Below.refl _ _).alloc (Nat.le_refl _) _) (Nat.le_refl _)⟩, (Below.refl _ _).alloc (Nat.le_refl _) _, by simp⟩
theorem below_cur {w W w' : World} (hb : Below w.heap.size w W) (hg : W.grownBy w' (some w.heap.size)) : Below w.heap.size w w' :=
  hb.grown hg hb.size (fun k hk => by simp at hk; omega)
/-- One among a list that is made for it. -/
theorem among_new (w : World) (b m : Nat) (hc : Cur w b m) (hm : m + 2 ≤ 1000000000000) (xs : List Int) (h1 : 1 ≤ xs.length) (h2 : xs.length ≤ 1000) :
    Calls Tryz.prog 73 #[.pointer (some ⟨b, 0, none⟩), .slice (some ⟨w.heap.size, 0, none⟩) xs.length xs.length] (w.alloc (.cells (xs.map (Value.int .i64)).toArray 3)) (DrewM xs b (m + 2) w) := by
  have hbl := hc.lt
  have hI : Ints (w.alloc (.cells (xs.map (Value.int .i64)).toArray 3)) (w.heap.size + 1) (some ⟨w.heap.size, 0, none⟩) xs.length xs := ⟨rfl, by omega, cellsAt_new w (xs.map (Value.int .i64)) 3⟩
  refine (among_any _ b m (hc.below ((Below.refl w.heap.size w).alloc (Nat.le_refl _) _) hbl) hm _ _ _ _ xs hI (by simp) h1 h2 (fun g o e => by simp at e; omega)).mono ?_
  rintro e w' ⟨r, hr, he, hc', hg⟩
  exact ⟨r, hr, he, hc', grownBy_old hg⟩
/-- What a draw hands over: a list of ints. -/
def RetD (N : Nat) (w : World) (e : Ending) (w' : World) : Prop := ∃ (xs : List Int) (ao : Option Addr) (n cap : Nat), e = .returned (.slice ao n cap) ∧ Ints w' w'.heap.size ao n xs ∧ n ≤ N ∧ Below w.heap.size w w'
/-- Two lists. -/
def RetDD (N : Nat) (w : World) (e : Ending) (w' : World) : Prop := ∃ (xs : List Int) (ao : Option Addr) (n cap : Nat) (ys : List Int) (bo : Option Addr) (k cap2 : Nat), e = .returned (.tuple #[.slice ao n cap, .slice bo k cap2]) ∧ Ints w' w'.heap.size ao n xs ∧ n ≤ N ∧ Ints w' w'.heap.size bo k ys ∧ k ≤ N ∧ Below w.heap.size w w'
/-- A list and a number. -/
def RetDN (N : Nat) (lo hi : Int) (w : World) (e : Ending) (w' : World) : Prop := ∃ (xs : List Int) (ao : Option Addr) (n cap : Nat) (r : Int), e = .returned (.tuple #[.slice ao n cap, .int .i64 r]) ∧ Ints w' w'.heap.size ao n xs ∧ n ≤ N ∧ lo ≤ r ∧ r ≤ hi ∧ Below w.heap.size w w'
/-- Two numbers. -/
def RetNN (lo hi lo2 hi2 : Int) (w : World) (e : Ending) (w' : World) : Prop := ∃ r q : Int, e = .returned (.tuple #[.int .i64 r, .int .i64 q]) ∧ lo ≤ r ∧ r ≤ hi ∧ lo2 ≤ q ∧ q ≤ hi2 ∧ Below w.heap.size w w'
end Go.Proofs.YtdlddkgmjpmenaaGreatDoor
/-
  Draws: a spoilt text, a text of bits.
-/
namespace Go.Proofs.YtdlddkgmjpmenaaGreatDoor
open Go.RowKit
set_option linter.unusedVariables false
set_option linter.unusedSimpArgs false

/-- A text is drawn. -/
def DrewS (N b m : Nat) (w : World) (e : Ending) (w' : World) : Prop := ∃ s : ByteArray, e = .returned (.string s) ∧ s.size ≤ N ∧ Cur w' b m ∧ w.grownBy w' (some b)
theorem nat_of {x : Int} (h : 0 ≤ x) : ∃ k : Nat, x = k := Int.eq_ofNat_of_zero_le h
set_option maxHeartbeats 4000000 in
set_option maxRecDepth 20000 in
theorem spoilt_any (w : World) (b m : Nat) (hc : Cur w b m) (hm : m + 100 ≤ 1000000000000) (t v : ByteArray) (ht : t.size ≤ 1000) (hv : 1 ≤ v.size) (hv2 : v.size ≤ 100) :
    Calls Tryz.prog 43 #[.pointer (some ⟨b, 0, none⟩), .string t, .string v] w (DrewS (t.size + 2) b (m + 30) w) := by
  have hbl := hc.lt
  go_enter Tryz.func43, Tryz.ntmps43
  go_wp2_with fail
  refine (pick_any _ _ _ hc (by omega) 2 (by omega) (by omega)).mono ?_
  rintro e w1 ⟨r, hr0, hr1, rfl, hc1, hg1⟩
  go_wp2_with fail
  go_loopw [1, 7] (fun x1 x7 wr => ∃ (k : Int) (s : ByteArray), 0 ≤ k ∧ k ≤ 2 ∧ x7 = .int .i64 k ∧ x1 = .string s ∧ (s.size : Int) ≤ t.size + (2 - k) ∧ Cur wr b (m + 2 + 6 * (2 - k).toNat) ∧ w.grownBy wr (some b)) (fun _ x7 _ => (intOf x7).toNat)
  case atStart => exact ⟨_, _, by omega, by omega, rfl, rfl, by omega, hc1.more (by omega) (by omega), hg1⟩
  case round =>
    obtain ⟨k, s, hk0, hk2, rfl, rfl, hsz, hcu, hg⟩ := hrel
    by_cases hk : 0 < k
    · by_cases hs : 0 < s.size
      · have hs' : (0 : Int) < s.size := by omega
        go_wp2_with fail
        refine (pick_any _ _ _ hcu (by omega) s.size (by omega) (by omega)).mono ?_
        rintro e w2 ⟨i, hi0, hi1, rfl, hc2, hg2⟩
        obtain ⟨i, rfl⟩ := nat_of hi0
        go_wp2_with fail
        refine (pick_any _ _ _ hc2 (by omega) v.size (by omega) (by omega)).mono ?_
        rintro e w3 ⟨j, hj0, hj1, rfl, hc3, hg3⟩
        obtain ⟨j, rfl⟩ := nat_of hj0
        have hjv : j < v.size := by omega
        have hcv := str_conv1 w3 (v[j].toNat : Int)
        obtain ⟨W4, hW4⟩ : ∃ W, W = w3.alloc (.cells #[.int .u8 (v[j].toNat : Int)] 5) := ⟨_, rfl⟩
        have hb4 : Below w3.heap.size w3 W4 := by rw [hW4]; exact (Below.refl _ _).alloc (Nat.le_refl _) _
        rw [← hW4] at hcv
        have HW4 := Lib.hid hW4
        clear hW4
        obtain ⟨q, hq⟩ : ∃ q, q = strOfNums [(v[j].toNat : Int)] := ⟨_, rfl⟩
        have hq1 : q.size ≤ 1 := by rw [hq]; exact Nat.le_refl 1
        rw [← hq] at hcv
        clear hq
        have hc4 := hc3.below hb4 hc3.lt
        have hg4 := gbelow (gtrans (gtrans hg hg2) hg3) hb4
        go_wp2_with (rw [← HW4.out])
        refine (pick_any _ _ _ hc4 (by omega) 3 (by omega) (by omega)).mono ?_
        rintro e w5 ⟨p, hp0, hp1, rfl, hc5, hg5⟩
        have e1 : (s.extract 0 i).size ≤ 1100 := by simp; omega
        have e3 : (s.extract 0 i ++ q).size ≤ 1101 := by simp; omega
        have e4 : (s.extract i s.size).size ≤ 1100 := by simp; omega
        have e5 : (s.extract (i + 1) s.size).size ≤ 1100 := by simp; omega
        by_cases p0 : p = 0
        · subst p0
          go_wp2_with fail
          go_quiet (fail)
          go_wp2_with fail
          go_roundw
          case rel => exact ⟨k - 1, _, by omega, by omega, rfl, rfl, by simp; omega, (hc5.drewN _).more (by omega) (by omega), gdrewN (gtrans hg4 hg5) _⟩
          case measure => simp [intOf] <;> omega
        by_cases p1 : p = 1
        · subst p1
          go_wp2_with fail
          go_quiet (fail)
          go_wp2_with fail
          go_roundw
          case rel => exact ⟨k - 1, _, by omega, by omega, rfl, rfl, by simp; omega, (hc5.drewN _).more (by omega) (by omega), gdrewN (gtrans hg4 hg5) _⟩
          case measure => simp [intOf] <;> omega
        · go_wp2_with fail
          go_quiet (fail)
          go_wp2_with fail
          go_roundw
          case rel => exact ⟨k - 1, _, by omega, by omega, rfl, rfl, by simp; omega, (hc5.drewN _).more (by omega) (by omega), gdrewN (gtrans hg4 hg5) _⟩
          case measure => simp [intOf] <;> omega
      · have hs' : ¬ (0 : Int) < s.size := by omega
        go_wp2_with fail
        go_ret
        exact ⟨_, rfl, by omega, hcu.more (by omega) (by omega), hg⟩
    · go_wp2_with fail
      go_ret
      exact ⟨_, rfl, by omega, hcu.more (by omega) (by omega), hg⟩
/-- What a draw hands over: a text. -/
def RetDS (N : Nat) (w : World) (e : Ending) (w' : World) : Prop := ∃ s : ByteArray, e = .returned (.string s) ∧ s.size ≤ N ∧ Below w.heap.size w w'
end Go.Proofs.YtdlddkgmjpmenaaGreatDoor
/-
  Draws: a text among texts.
-/
namespace Go.Proofs.YtdlddkgmjpmenaaGreatDoor
open Go.RowKit
set_option linter.unusedVariables false
set_option linter.unusedSimpArgs false

/-- A text is drawn. -/
def DrewT (N b m : Nat) (w : World) (e : Ending) (w' : World) : Prop := ∃ s : ByteArray, e = .returned (.string s) ∧ s.size ≤ N ∧ Cur w' b m ∧ w.grownBy w' (some b)
theorem of_new (w : World) (b m : Nat) (hc : Cur w b m) (hm : m + 2 ≤ 1000000000000) (ss : List ByteArray) (h1 : 1 ≤ ss.length) (h2 : ss.length ≤ 1000) (N : Nat) (hN : ∀ s ∈ ss, s.size ≤ N) :
    Calls Tryz.prog 45 #[.pointer (some ⟨b, 0, none⟩), .slice (some ⟨w.heap.size, 0, none⟩) ss.length ss.length] (w.alloc (.cells (ss.map Value.string).toArray 9)) (DrewT N b (m + 2) w) := by
  have hbl := hc.lt
  have hcell := cellsAt_new w (ss.map Value.string) 9
  have hcW := hc.below ((Below.refl w.heap.size w).alloc (Nat.le_refl _) (.cells (ss.map Value.string).toArray 9)) hbl
  have hG := @grownBy_old w
  have hzW : (w.alloc (.cells (ss.map Value.string).toArray 9)).heap.size = w.heap.size + 1 := by simp
  have HG : Hid (∀ w', (w.alloc (.cells (ss.map Value.string).toArray 9)).grownBy w' (some b) → w.grownBy w' (some b)) := fun w' h => grownBy_old h
  clear hG
  generalize w.alloc (.cells (ss.map Value.string).toArray 9) = W at *
  obtain ⟨n, hn⟩ : ∃ n, n = ss.length := ⟨_, rfl⟩
  rw [← hn] at h1 h2 ⊢
  have HN := Lib.hid hn
  have HNN := Lib.hid hN
  clear hn hN
  go_enter Tryz.func45, Tryz.ntmps45
  go_wp2_with fail
  refine (pick_any _ _ _ hcW (by omega) n (by omega) (by omega)).mono ?_
  rintro e w1 ⟨r, hr0, hr1, rfl, hc1, hg1⟩
  obtain ⟨k, rfl⟩ := Int.eq_ofNat_of_zero_le hr0
  have hk : k < n := by omega
  obtain ⟨s, hs⟩ : ∃ s, ss[k]? = some s := ⟨_, List.getElem?_eq_getElem (by rw [← HN.out]; exact hk)⟩
  have q : w1.cell? ⟨w.heap.size, k, none⟩ = some (.string s) := by
    refine (hg1.cell_far ⟨w.heap.size, k, none⟩ (by show w.heap.size < W.heap.size; omega) (fun e => by simp at e; omega)).trans ?_
    rcases hcell with h0 | ⟨b1, o1, e, _, hcc⟩
    · simp at h0; rw [h0] at hs; simp at hs
    · simp only [Option.some.injEq, Addr.mk.injEq] at e
      obtain ⟨rfl, rfl, _⟩ := e
      have := hcc k (.string s) (by rw [List.getElem?_map, hs]; rfl)
      simpa using this
  have hsz := HNN.out s (List.mem_of_getElem? hs)
  clear hs hcell
  go_wp2_with fail
  go_ret
  exact ⟨_, rfl, hsz, hc1, HG.out _ hg1⟩
end Go.Proofs.YtdlddkgmjpmenaaGreatDoor
