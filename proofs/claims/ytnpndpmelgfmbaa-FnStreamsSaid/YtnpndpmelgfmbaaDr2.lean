/-
  Draws: any bits, and what the draw functions of the bits hand over.
-/
import Derived.Test.YtnpndpmelgfmbaaDr1
namespace Go.Proofs.Ytnpndpmelgfmbaa
open Go.RowKit
set_option linter.unusedVariables false
set_option linter.unusedSimpArgs false

/-- The argument []byte of a law. -/
def BytesArg (W : World) (ao : Option Addr) (n : Nat) (zs : List Int) : Prop := zs.length = n ∧ n ≤ maxLen ∧ (∀ x ∈ zs, 0 ≤ x ∧ x ≤ 255) ∧ CellsAt W W.heap.size ao (zs.map (Value.int .u8))
theorem bytes_nil (W : World) : BytesArg W none 0 [] := ⟨rfl, Nat.zero_le _, by simp, .inl rfl⟩
theorem bytes_of_open {W : World} {x : Addr} {len cap : Nat} {zs : List Int} (hl : len ≤ cap) (hz : zs.length = cap) (hm : cap ≤ maxLen) (hcell : ∀ i, i < zs.length → W.cell? (x.add i) = some (.int .u8 (zs.getD i 0))) (hwz : ∀ n ∈ zs, (Lit.int .u8 n).wf = true) : BytesArg W (some x) len (zs.take len) := by
  refine ⟨by simp; omega, Nat.le_trans hl hm, fun y hy => ?_, ?_⟩
  · have h := hwz y (List.mem_of_mem_take hy)
    simp [Lit.wf, IntKind.min, IntKind.max, IntKind.signed, IntKind.bits] at h
    omega
  · rcases Nat.eq_zero_or_pos len with rfl | hp
    · left; simp
    · have h0 := hcell 0 (by omega)
      obtain ⟨b, off, spot⟩ := x
      have hspot : spot = none := by simpa [Addr.add] using World.cell?_spot h0
      subst hspot
      have hlt : b < W.heap.size := by
        have := World.block_lt_of_cell? W _ h0
        rw [Addr.add_lit] at this
        exact this
      refine .inr ⟨b, off, rfl, hlt, fun j u hu => ?_⟩
      have hj : j < len := by
        have := (List.getElem?_eq_some_iff.1 hu).1
        simp at this; omega
      have hc := hcell j (by omega)
      rw [Addr.add_lit] at hc
      rw [hc]
      have e : ((zs.take len).map (Value.int IntKind.u8))[j]? = some (.int .u8 (zs.getD j 0)) := by
        rw [List.getElem?_map, List.getElem?_take, if_pos hj]
        simp [List.getD, List.getElem?_eq_getElem (show j < zs.length by omega)]
      rw [e] at hu
      exact hu
/-- The same within a bound. -/
def Bytes (w : World) (B : Nat) (ao : Option Addr) (n : Nat) (zs : List Int) : Prop := zs.length = n ∧ n ≤ 1000000000 ∧ (∀ x ∈ zs, 0 ≤ x ∧ x ≤ 255) ∧ CellsAt w B ao (zs.map (Value.int .u8))
theorem BytesArg.bytes {W : World} {ao : Option Addr} {n : Nat} {zs : List Int} (h : BytesArg W ao n zs) (hn : n ≤ 1048576) : Bytes W W.heap.size ao n zs := ⟨h.1, by omega, h.2.2.1, h.2.2.2⟩
theorem Bytes.below {w w' : World} {B C : Nat} {ao : Option Addr} {n : Nat} {xs : List Int} (h : Bytes w B ao n xs) (hb : Below C w w') (hC : B ≤ C) : Bytes w' B ao n xs := ⟨h.1, h.2.1, h.2.2.1, h.2.2.2.below hb hC⟩
theorem Bytes.up {w : World} {B C : Nat} {ao : Option Addr} {n : Nat} {xs : List Int} (h : Bytes w B ao n xs) (hC : B ≤ C) : Bytes w C ao n xs := ⟨h.1, h.2.1, h.2.2.1, h.2.2.2.up hC⟩
/-- The cursor is made. -/
theorem cur_new (w : World) (ao : Option Addr) (n cap : Nat) (bs : List Int) (h : Bytes w w.heap.size ao n bs) :
    ∃ W, W = w.alloc (.cells #[.slice ao n cap, .int .i64 0, .int .u64 0] 103) ∧ Cur W w.heap.size 0 ∧ Below w.heap.size w W ∧ w.heap.size < W.heap.size :=
  ⟨_, rfl, ⟨ao, n, cap, bs, 0, 0, heap_alloc_new w _, Nat.le_refl _, by decide, by decide, by decide, h.1, h.2.1, h.2.2.1, h.2.2.2.below ((Below.refl _ _).alloc (Nat.le_refl _) _) (Nat.le_refl _)⟩, (Below.refl _ _).alloc (Nat.le_refl _) _, by simp⟩
theorem below_cur {w W w' : World} (hb : Below w.heap.size w W) (hg : W.grownBy w' (some w.heap.size)) : Below w.heap.size w w' :=
  hb.grown hg hb.size (fun k hk => by simp at hk; omega)
/-- One among a list that is made for it. -/
theorem among_new (w : World) (b m : Nat) (hc : Cur w b m) (hm : m + 2 ≤ 1000000000000) (xs : List Int) (h1 : 1 ≤ xs.length) (h2 : xs.length ≤ 1000) :
    Calls Try.prog 110 #[.pointer (some ⟨b, 0, none⟩), .slice (some ⟨w.heap.size, 0, none⟩) xs.length xs.length] (w.alloc (.cells (xs.map (Value.int .i64)).toArray 3)) (DrewM xs b (m + 2) w) := by
  have hbl := hc.lt
  have hI : Ints (w.alloc (.cells (xs.map (Value.int .i64)).toArray 3)) (w.heap.size + 1) (some ⟨w.heap.size, 0, none⟩) xs.length xs := ⟨rfl, by omega, cellsAt_new w (xs.map (Value.int .i64)) 3⟩
  refine (among_any _ b m (hc.below ((Below.refl w.heap.size w).alloc (Nat.le_refl _) _) hbl) hm _ _ _ _ xs hI (by simp) h1 h2 (fun g o e => by simp at e; omega)).mono ?_
  rintro e w' ⟨r, hr, he, hc', hg⟩
  exact ⟨r, hr, he, hc', grownBy_old hg⟩
set_option maxHeartbeats 4000000 in
theorem anyBits_any (w : World) (b m : Nat) (hc : Cur w b m) (hm : m + 1000 ≤ 1000000000000) :
    Calls Try.prog 105 #[.pointer (some ⟨b, 0, none⟩)] w (DrewI w.heap.size 100 b (m + 900) w) := by
  have hbl := hc.lt
  go_enter Try.func105, Try.ntmps105
  go_wp2_with fail
  refine (pick_any _ _ _ hc (by omega) 10 (by omega) (by omega)).mono ?_
  rintro e w1 ⟨r, hr0, hr1, rfl, hc1, hg1⟩
  go_wp2_with fail
  refine (bits_any _ _ _ hc1 (by omega) _ (by omega)).mono ?_
  rintro e w2 ⟨xs, ao, n, cap, rfl, ho2, hn, _, hc2, hg2⟩
  have hz1 := hg1.size
  have hz2 := hg2.size
  go_wp2_with fail
  refine (pick_any _ _ _ hc2 (by omega) 24 (by omega) (by omega)).mono ?_
  rintro e w3 ⟨q, hq0, hq1, rfl, hc3, hg3⟩
  have hz3 := hg3.size
  have ho3 := (ho2.up (C := w.heap.size) (by omega)).other hg3 (fun p l hp hl => by have := (ho2.rowLt p hp).1; simp at hl; omega)
  have hG3 := gtrans (gtrans hg1 hg2) hg3
  clear ho2
  by_cases h0 : q = 0
  · subst h0
    go_wp2_with fail
    refine (among_new _ _ _ hc3 (by omega) [-1, 2] (by decide) (by decide)).mono ?_
    rintro e w4 ⟨s, _, rfl, hc4, hg4⟩
    have hz4 := hg4.size
    have ho4 := ho3.other hg4 (fun p l hp hl => by have := (ho3.rowLt p hp).1; simp at hl; omega)
    have hrow : ∀ p, rowOf ao cap = some p → w.heap.size ≤ p := fun p hp => (ho4.rowLt p hp).1
    go_wp2_with (at_builtin; refine wpList_append_i rfl _ _ rfl w.heap.size _ _ _ _ _ rfl (by first | rfl | (simp; rfl)) ho4 (by omega) (by omega) ?_; intro ao' cap' w9 hown9 hg9)
    go_ret
    exact ⟨_, _, _, _, rfl, hown9, by omega, (hc4.grown hg9 (fun p hp => by have := hrow p hp; omega)).more (by omega) (by omega), gown (gtrans hG3 hg4) hg9 hrow⟩
  by_cases h1 : q = 1
  · subst h1
    go_wp2_with fail
    refine (pick_any _ _ _ hc3 (by omega) 2 (by omega) (by omega)).mono ?_
    rintro e w4 ⟨s, hs0, hs1, rfl, hc4, hg4⟩
    go_wp2_with fail
    refine (bits_any _ _ _ hc4 (by omega) _ (by omega)).mono ?_
    rintro e w5 ⟨ys, bo, n5, cap5, rfl, ho5, hn5, _, hc5, hg5⟩
    have hz4 := hg4.size
    go_wp2_with fail
    go_ret
    exact ⟨_, _, _, _, rfl, ho5.up (by omega), by omega, hc5.more (by omega) (by omega), gtrans (gtrans hG3 hg4) hg5⟩
  by_cases h2 : q = 2
  · subst h2
    go_wp2_with fail
    refine (pick_any _ _ _ hc3 (by omega) 2 (by omega) (by omega)).mono ?_
    rintro e w4 ⟨s, hs0, hs1, rfl, hc4, hg4⟩
    go_wp2_with fail
    refine (bits_any _ _ _ hc4 (by omega) _ (by omega)).mono ?_
    rintro e w5 ⟨ys, bo, n5, cap5, rfl, ho5, hn5, _, hc5, hg5⟩
    have hz4 := hg4.size
    go_wp2_with fail
    go_ret
    exact ⟨_, _, _, _, rfl, ho5.up (by omega), by omega, hc5.more (by omega) (by omega), gtrans (gtrans hG3 hg4) hg5⟩
  · go_wp2_with fail
    go_ret
    exact ⟨_, _, _, _, rfl, ho3, by omega, hc3.more (by omega) (by omega), hG3⟩
/-- What a draw hands over: a list of ints. -/
def RetD (N : Nat) (w : World) (e : Ending) (w' : World) : Prop := ∃ (xs : List Int) (ao : Option Addr) (n cap : Nat), e = .returned (.slice ao n cap) ∧ Ints w' w'.heap.size ao n xs ∧ n ≤ N ∧ Below w.heap.size w w'
theorem DrawAreBits_any (w : World) (ao : Option Addr) (n cap : Nat) (bs : List Int) (h : Bytes w w.heap.size ao n bs) :
    Calls Try.prog 97 #[.slice ao n cap] w (RetD 100 w) := by
  obtain ⟨W, hW, hc, hb, hlt⟩ := cur_new w ao n cap bs h
  have HW := Lib.hid hW
  clear hW
  go_enter Try.func97, Try.ntmps97
  go_wp2_with (rw [← HW.out])
  refine (anyBits_any _ _ _ hc (by omega)).mono ?_
  rintro e w2 ⟨xs, bo, k, cap2, rfl, ho, hk, hc2, hg⟩
  go_wp2_with fail
  go_ret
  exact ⟨_, _, _, _, rfl, ho.ints, hk, below_cur hb hg⟩
theorem DrawNumberOf_any (w : World) (ao : Option Addr) (n cap : Nat) (bs : List Int) (h : Bytes w w.heap.size ao n bs) :
    Calls Try.prog 21 #[.slice ao n cap] w (RetD 100 w) := by
  go_enter Try.func21, Try.ntmps21
  go_wp2_with fail
  refine (DrawAreBits_any _ _ _ _ _ h).mono ?_
  rintro e w2 ⟨xs, bo, k, cap2, rfl, ho, hk, hb⟩
  go_wp2_with fail
  go_ret
  exact ⟨_, _, _, _, rfl, ho, hk, hb⟩
/-- Two lists. -/
def RetDD (N : Nat) (w : World) (e : Ending) (w' : World) : Prop := ∃ (xs : List Int) (ao : Option Addr) (n cap : Nat) (ys : List Int) (bo : Option Addr) (k cap2 : Nat), e = .returned (.tuple #[.slice ao n cap, .slice bo k cap2]) ∧ Ints w' w'.heap.size ao n xs ∧ n ≤ N ∧ Ints w' w'.heap.size bo k ys ∧ k ≤ N ∧ Below w.heap.size w w'
set_option maxHeartbeats 1000000 in
theorem DrawXorBits_any (w : World) (ao : Option Addr) (n cap : Nat) (bs : List Int) (h : Bytes w w.heap.size ao n bs) :
    Calls Try.prog 31 #[.slice ao n cap] w (RetDD 100 w) := by
  obtain ⟨W, hW, hc, hb, hlt⟩ := cur_new w ao n cap bs h
  have HW := Lib.hid hW
  clear hW
  go_enter Try.func31, Try.ntmps31
  go_wp2_with (rw [← HW.out])
  refine (anyBits_any _ _ _ hc (by omega)).mono ?_
  rintro e w2 ⟨xs, bo, k, cap2, rfl, ho2, hk, hc2, hg2⟩
  go_wp2_with fail
  refine (one_any _ _ _ hc2 (by omega) 12 (by omega) (by omega)).mono ?_
  rintro e w3 ⟨v, rfl, hc3, hg3⟩
  have hz2 := hg2.size
  have hz3 := hg3.size
  have ho3 := ho2.other hg3 (fun p l hp hl => by have := (ho2.rowLt p hp).1; simp at hl; omega)
  clear ho2
  cases v
  · go_wp2_with fail
    refine (bits_any _ _ _ hc3 (by omega) _ (by omega)).mono ?_
    rintro e w4 ⟨ys, co, n4, cap4, rfl, ho4, hn4, _, hc4, hg4⟩
    have ho5 := ho3.other hg4 (fun p l hp hl => by have := (ho3.rowLt p hp).1; simp at hl; omega)
    go_wp2_with fail
    go_ret2
    exact ⟨_, _, _, _, _, _, _, _, rfl, ho5.ints, hk, ho4.ints, by omega, below_cur hb (gtrans (gtrans hg2 hg3) hg4)⟩
  · go_wp2_with fail
    refine (anyBits_any _ _ _ hc3 (by omega)).mono ?_
    rintro e w4 ⟨ys, co, n4, cap4, rfl, ho4, hn4, hc4, hg4⟩
    have ho5 := ho3.other hg4 (fun p l hp hl => by have := (ho3.rowLt p hp).1; simp at hl; omega)
    go_wp2_with fail
    go_ret2
    exact ⟨_, _, _, _, _, _, _, _, rfl, ho5.ints, hk, ho4.ints, by omega, below_cur hb (gtrans (gtrans hg2 hg3) hg4)⟩
theorem DrawParityOf_any (w : World) (ao : Option Addr) (n cap : Nat) (bs : List Int) (h : Bytes w w.heap.size ao n bs) :
    Calls Try.prog 49 #[.slice ao n cap] w (RetDD 100 w) := by
  go_enter Try.func49, Try.ntmps49
  go_wp2_with fail
  refine (DrawXorBits_any _ _ _ _ _ h).mono ?_
  rintro e w2 ⟨xs, bo, k, cap2, ys, co, n4, cap4, rfl, h1, h2, h3, h4, hb⟩
  go_wp2_with fail
  go_ret2
  exact ⟨_, _, _, _, _, _, _, _, rfl, h1, h2, h3, h4, hb⟩
/-- A list and a number. -/
def RetDN (N : Nat) (lo hi : Int) (w : World) (e : Ending) (w' : World) : Prop := ∃ (xs : List Int) (ao : Option Addr) (n cap : Nat) (r : Int), e = .returned (.tuple #[.slice ao n cap, .int .i64 r]) ∧ Ints w' w'.heap.size ao n xs ∧ n ≤ N ∧ lo ≤ r ∧ r ≤ hi ∧ Below w.heap.size w w'
set_option maxHeartbeats 1000000 in
theorem DrawTurnBits_any (w : World) (ao : Option Addr) (n cap : Nat) (bs : List Int) (h : Bytes w w.heap.size ao n bs) :
    Calls Try.prog 34 #[.slice ao n cap] w (RetDN 100 (-2000) 2000 w) := by
  obtain ⟨W, hW, hc, hb, hlt⟩ := cur_new w ao n cap bs h
  have HW := Lib.hid hW
  clear hW
  go_enter Try.func34, Try.ntmps34
  go_wp2_with (rw [← HW.out])
  refine (anyBits_any _ _ _ hc (by omega)).mono ?_
  rintro e w2 ⟨xs, bo, k, cap2, rfl, ho2, hk, hc2, hg2⟩
  go_wp2_with fail
  refine (pick_any _ _ _ hc2 (by omega) 40 (by omega) (by omega)).mono ?_
  rintro e w3 ⟨q, hq0, hq1, rfl, hc3, hg3⟩
  have hz2 := hg2.size
  have hz3 := hg3.size
  have ho3 := ho2.other hg3 (fun p l hp hl => by have := (ho2.rowLt p hp).1; simp at hl; omega)
  clear ho2
  go_wp2_with fail
  refine (among_new _ _ _ hc3 (by omega) [0, 1, -1, 3, 1000, -1000, 1001, -1001, q - 20] (by simp) (by simp)).mono ?_
  rintro e w4 ⟨r, hr, rfl, hc4, hg4⟩
  have hrb : -2000 ≤ r ∧ r ≤ 2000 := by simp at hr; omega
  clear hr
  have ho4 := ho3.other hg4 (fun p l hp hl => by have := (ho3.rowLt p hp).1; simp at hl; omega)
  go_wp2_with fail
  go_ret2
  exact ⟨_, _, _, _, _, rfl, ho4.ints, hk, hrb.1, hrb.2, below_cur hb (gtrans (gtrans hg2 hg3) hg4)⟩
/-- Two numbers. -/
def RetNN (lo hi lo2 hi2 : Int) (w : World) (e : Ending) (w' : World) : Prop := ∃ r q : Int, e = .returned (.tuple #[.int .i64 r, .int .i64 q]) ∧ lo ≤ r ∧ r ≤ hi ∧ lo2 ≤ q ∧ q ≤ hi2 ∧ Below w.heap.size w w'
set_option maxHeartbeats 1000000 in
theorem DrawBitsOf_any (w : World) (ao : Option Addr) (n cap : Nat) (bs : List Int) (h : Bytes w w.heap.size ao n bs) :
    Calls Try.prog 52 #[.slice ao n cap] w (RetNN (-1) 65536 (-1) 17 w) := by
  obtain ⟨W, hW, hc, hb, hlt⟩ := cur_new w ao n cap bs h
  have HW := Lib.hid hW
  clear hW
  go_enter Try.func52, Try.ntmps52
  go_wp2_with (rw [← HW.out])
  refine (pick_any _ _ _ hc (by omega) 16 (by omega) (by omega)).mono ?_
  rintro e w1 ⟨q, hq0, hq1, rfl, hc1, hg1⟩
  go_wp2_with fail
  refine (among_new _ _ _ hc1 (by omega) [0, 1, 4, 8, 16, 17, -1, q] (by simp) (by simp)).mono ?_
  rintro e w2 ⟨s, hs, rfl, hc2, hg2⟩
  have hsb : -1 ≤ s ∧ s ≤ 17 := by simp at hs; omega
  clear hs
  go_wp2_with fail
  refine (pick_any _ _ _ hc2 (by omega) 400 (by omega) (by omega)).mono ?_
  rintro e w3 ⟨q2, hq20, hq21, rfl, hc3, hg3⟩
  go_wp2_with fail
  refine (among_new _ _ _ hc3 (by omega) [0, 1, 5, 255, 65535, 65536, -1, q2] (by simp) (by simp)).mono ?_
  rintro e w4 ⟨r, hr, rfl, hc4, hg4⟩
  have hrb : -1 ≤ r ∧ r ≤ 65536 := by simp at hr; omega
  clear hr
  go_wp2_with fail
  go_ret2
  exact ⟨_, _, rfl, hrb.1, hrb.2, hsb.1, hsb.2, below_cur hb (gtrans (gtrans (gtrans hg1 hg2) hg3) hg4)⟩
end Go.Proofs.Ytnpndpmelgfmbaa
