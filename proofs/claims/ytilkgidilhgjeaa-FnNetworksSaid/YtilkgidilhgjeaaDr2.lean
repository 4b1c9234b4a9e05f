/-
  Draws: any bits, and what the draw functions of the bits hand over.
-/
import Derived.Test.YtilkgidilhgjeaaDr1
namespace Go.Proofs.Ytilkgidilhgjeaa
open Go.RowKit
set_option linter.unusedVariables false
set_option linter.unusedSimpArgs false

/-- The argument []byte of a law. -/
def BytesArg (W : World) (ao : Option Addr) (n : Nat) (zs : List Int) : Prop := zs.length = n ∧ n ≤ maxLen ∧ (∀ x ∈ zs, 0 ≤ x ∧ x ≤ 255) ∧ CellsAt W W.heap.size ao (zs.map (Value.int .u8))
theorem bytes_nil (W : World) : BytesArg W none 0 [] := ⟨rfl, Nat.zero_le _, by simp, .inl rfl⟩
theorem bytes_of_open {W : World} {x : Addr} {len cap : Nat} {zs : List Int} (hl : len ≤ cap) (hz : zs.length = cap) (hm : cap ≤ maxLen) (hcell : ∀ i, i < zs.length → W.cell? (x.add i) = some (.int .u8 (zs.getD i 0))) (hwz : ∀ n ∈ zs, (Lit.int .u8 n).wf = true) : BytesArg W (some x) len (zs.take len) := by
  refine ⟨by simp; omega, Nat.le_trans hl hm, fun y hy => ?_, ?_⟩
  · have h := hwz y (List.mem_of_mem_take hy)
    simp [Lit.wf, IntKind.min, IntKind.max, IntKind.signed, IntKind.bits] at h
    omega
  · rcases Nat.eq_zero_or_pos len with rfl | hp
    · left; simp
    · have h0 := hcell 0 (by omega)
      obtain ⟨b, off, spot⟩ := x
      have hspot : spot = none := by simpa [Addr.add] using World.cell?_spot h0
      subst hspot
      have hlt : b < W.heap.size := by
        have := World.block_lt_of_cell? W _ h0
        rw [Addr.add_lit] at this
        exact this
      refine .inr ⟨b, off, rfl, hlt, fun j u hu => ?_⟩
      have hj : j < len := by
        have := (List.getElem?_eq_some_iff.1 hu).1
        simp at this; omega
      have hc := hcell j (by omega)
      rw [Addr.add_lit] at hc
      rw [hc]
      have e : ((zs.take len).map (Value.int IntKind.u8))[j]? = some (.int .u8 (zs.getD j 0)) := by
        rw [List.getElem?_map, List.getElem?_take, if_pos hj]
        simp [List.getD, List.getElem?_eq_getElem (show j < zs.length by omega)]
      rw [e] at hu
      exact hu
/-- The same within a bound. -/
def Bytes (w : World) (B : Nat) (ao : Option Addr) (n : Nat) (zs : List Int) : Prop := zs.length = n ∧ n ≤ 1000000000 ∧ (∀ x ∈ zs, 0 ≤ x ∧ x ≤ 255) ∧ CellsAt w B ao (zs.map (Value.int .u8))
theorem BytesArg.bytes {W : World} {ao : Option Addr} {n : Nat} {zs : List Int} (h : BytesArg W ao n zs) (hn : n ≤ 1048576) : Bytes W W.heap.size ao n zs := ⟨h.1, by omega, h.2.2.1, h.2.2.2⟩
theorem Bytes.below {w w' : World} {B C : Nat} {ao : Option Addr} {n : Nat} {xs : List Int} (h : Bytes w B ao n xs) (hb : Below C w w') (hC : B ≤ C) : Bytes w' B ao n xs := ⟨h.1, h.2.1, h.2.2.1, h.2.2.2.below hb hC⟩
theorem Bytes.up {w : World} {B C : Nat} {ao : Option Addr} {n : Nat} {xs : List Int} (h : Bytes w B ao n xs) (hC : B ≤ C) : Bytes w C ao n xs := ⟨h.1, h.2.1, h.2.2.1, h.2.2.2.up hC⟩
/-- The cursor is made. -/
theorem cur_new (w : World) (ao : Option Addr) (n cap : Nat) (bs : List Int) (h : Bytes w w.heap.size ao n bs) :
    ∃ W, W = w.alloc (.cells #[.slice ao n cap, .int .i64 0, .int .u64 0] 93) ∧ Cur W w.heap.size 0 ∧ Below w.heap.size w W ∧ w.heap.size < W.heap.size :=
  ⟨_, rfl, ⟨ao, n, cap, bs, 0, 0, heap_alloc_new w _, Nat.le_refl _, by decide, by decide, by decide, h.1, h.2.1, h.2.2.1, h.2.2.2.below ((Below.refl _ _).alloc (Nat.le_refl _) _) (Nat.le_refl _)⟩, (Below.refl _ _).alloc (Nat.le_refl _) _, by simp⟩
theorem below_cur {w W w' : World} (hb : Below w.heap.size w W) (hg : W.grownBy w' (some w.heap.size)) : Below w.heap.size w w' :=
  hb.grown hg hb.size (fun k hk => by simp at hk; omega)
/-- One among a list that is made for it. -/
theorem among_new (w : World) (b m : Nat) (hc : Cur w b m) (hm : m + 2 ≤ 1000000000000) (xs : List Int) (h1 : 1 ≤ xs.length) (h2 : xs.length ≤ 1000) :
    Calls Try.prog 68 #[.pointer (some ⟨b, 0, none⟩), .slice (some ⟨w.heap.size, 0, none⟩) xs.length xs.length] (w.alloc (.cells (xs.map (Value.int .i64)).toArray 3)) (DrewM xs b (m + 2) w) := by
  have hbl := hc.lt
  have hI : Ints (w.alloc (.cells (xs.map (Value.int .i64)).toArray 3)) (w.heap.size + 1) (some ⟨w.heap.size, 0, none⟩) xs.length xs := ⟨rfl, by omega, cellsAt_new w (xs.map (Value.int .i64)) 3⟩
  refine (among_any _ b m (hc.below ((Below.refl w.heap.size w).alloc (Nat.le_refl _) _) hbl) hm _ _ _ _ xs hI (by simp) h1 h2 (fun g o e => by simp at e; omega)).mono ?_
  rintro e w' ⟨r, hr, he, hc', hg⟩
  exact ⟨r, hr, he, hc', grownBy_old hg⟩
/-- What a draw hands over: a list of ints. -/
def RetD (N : Nat) (w : World) (e : Ending) (w' : World) : Prop := ∃ (xs : List Int) (ao : Option Addr) (n cap : Nat), e = .returned (.slice ao n cap) ∧ Ints w' w'.heap.size ao n xs ∧ n ≤ N ∧ Below w.heap.size w w'
/-- Two lists. -/
def RetDD (N : Nat) (w : World) (e : Ending) (w' : World) : Prop := ∃ (xs : List Int) (ao : Option Addr) (n cap : Nat) (ys : List Int) (bo : Option Addr) (k cap2 : Nat), e = .returned (.tuple #[.slice ao n cap, .slice bo k cap2]) ∧ Ints w' w'.heap.size ao n xs ∧ n ≤ N ∧ Ints w' w'.heap.size bo k ys ∧ k ≤ N ∧ Below w.heap.size w w'
/-- A list and a number. -/
def RetDN (N : Nat) (lo hi : Int) (w : World) (e : Ending) (w' : World) : Prop := ∃ (xs : List Int) (ao : Option Addr) (n cap : Nat) (r : Int), e = .returned (.tuple #[.slice ao n cap, .int .i64 r]) ∧ Ints w' w'.heap.size ao n xs ∧ n ≤ N ∧ lo ≤ r ∧ r ≤ hi ∧ Below w.heap.size w w'
/-- Two numbers. -/
def RetNN (lo hi lo2 hi2 : Int) (w : World) (e : Ending) (w' : World) : Prop := ∃ r q : Int, e = .returned (.tuple #[.int .i64 r, .int .i64 q]) ∧ lo ≤ r ∧ r ≤ hi ∧ lo2 ≤ q ∧ q ≤ hi2 ∧ Below w.heap.size w w'
end Go.Proofs.Ytilkgidilhgjeaa
