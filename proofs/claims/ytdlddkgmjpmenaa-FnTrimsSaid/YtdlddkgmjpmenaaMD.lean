/-
  The language: marks in the laws: texts of numbers, slices of texts, programs.
-/
import Derived.Test.YtdlddkgmjpmenaaMC
import Derived.Laws.BytesArg
import Derived.Deep.RegionHeld3
namespace Go.Proofs.Ytdlddkgmjpmenaa
open Go.RowKit
set_option linter.unusedVariables false
set_option linter.unusedSimpArgs false

theorem str_conv (w : World) (b off len cap : Nat) (xs : List Int) (hlen : xs.length = len) (hcell : ∀ i, i < len → w.cell? ⟨b, off + i, none⟩ = some (.int .u8 (xs.getD i 0))) :
    (convert 22 9 (.slice (some ⟨b, off, none⟩) len cap)).run Try.prog w = .ok (.string (strOfNums xs)) w :=
  run_convert_bytes_arg w 22 5 Try.underlying22 Try.underlying5 b off len cap xs hlen hcell 9 Try.underlying9
theorem str_conv1 (w : World) (x : Int) : (convert 22 9 (.slice (some ⟨w.heap.size, 0, none⟩) 1 1)).run Try.prog (w.alloc (.cells #[.int .u8 x] 5)) = .ok (.string (strOfNums [x])) (w.alloc (.cells #[.int .u8 x] 5)) := by
  refine str_conv _ _ _ _ _ [x] rfl fun i hi => ?_
  obtain rfl : i = 0 := by omega
  rw [cell_of_row _ w.heap.size 0 #[.int .u8 x] 5 (0, 0) (heap_alloc_new w _)]; rfl
theorem ret_str {a b : ByteArray} (h : a = b) : Ending.returned (.string a) = .returned (.string b) := by rw [h]
/-- The digits of a number ahead of a text. -/
def digitsOf : Nat → Nat → ByteArray → ByteArray
  | 0, _, out => out
  | f + 1, k, out => if k = 0 then out else digitsOf f (k / 10) (strOfNums [48 + (k : Int) % 10] ++ out)
theorem digitsOf_zero (f : Nat) (out : ByteArray) : digitsOf f 0 out = out := by cases f <;> simp [digitsOf]
def markT (k : Nat) : ByteArray := if k = 0 then ⟨#[109, 48]⟩ else ⟨#[109]⟩ ++ digitsOf k k ⟨#[]⟩
def dummy := 0
end Go.Proofs.Ytdlddkgmjpmenaa
/-
  The language: marks in the laws: a program that a law has copied is written over.
-/
namespace Go.Proofs.Ytdlddkgmjpmenaa
open Go.RowKit
set_option linter.unusedVariables false
set_option linter.unusedSimpArgs false

/-- Only blocks from C to D, and new ones, may have turned. -/
structure Kept (C D : Nat) (w w' : World) : Prop where
  os : w'.os = w.os
  tape : w'.tape = w.tape
  output : w'.output = w.output
  size : w.heap.size ≤ w'.heap.size
  block : ∀ k, k < w.heap.size → (k < C ∨ D ≤ k) → w'.heap[k]? = w.heap[k]?
theorem Kept.refl (C D : Nat) (w : World) : Kept C D w w := ⟨rfl, rfl, rfl, Nat.le_refl _, fun _ _ _ => rfl⟩
theorem Kept.trans {C D : Nat} {a b c : World} (h : Kept C D a b) (k : Kept C D b c) : Kept C D a c :=
  ⟨k.os.trans h.os, k.tape.trans h.tape, k.output.trans h.output, Nat.le_trans h.size k.size, fun i hi hp => (k.block i (Nat.lt_of_lt_of_le hi h.size) hp).trans (h.block i hi hp)⟩
theorem Kept.of_below {C D E : Nat} {w w' : World} (h : Below E w w') (hE : w.heap.size ≤ E) : Kept C D w w' := ⟨h.os, h.tape, h.output, h.size, fun k hk _ => h.block k (Nat.lt_of_lt_of_le hk hE)⟩
theorem Kept.set {C D : Nat} {w w' : World} (h : Kept C D w w') (p : Addr) (v : Value) (h1 : C ≤ p.block) (h2 : p.block < D) : Kept C D w (w'.setCell p v) :=
  ⟨h.os, h.tape, h.output, by have := h.size; simpa using this, fun k hk hp => (heap_setCell_other w' p k v (by omega)).trans (h.block k hk hp)⟩
theorem Kept.below {C D : Nat} {w w' : World} (h : Kept C D w w') (hC : C ≤ w.heap.size) : Below C w w' := ⟨h.os, h.tape, h.output, h.size, fun k hk => h.block k (by omega) (.inl hk)⟩
/-- What lies elsewhere is as it was. -/
theorem OwnC.same {e : TypeId} {size B : Nat} {w w' : World} {ao : Option Addr} {n cap : Nat} {cs : List Value} (h : OwnC e size B w ao n cap cs) (hk : ∀ b, rowOf ao cap = .some b → w'.heap[b]? = w.heap[b]?) : OwnC e size B w' ao n cap cs := by
  rcases h with h | ⟨g, rfl, h⟩
  · exact .inl h
  · by_cases hc : cap = 0
    · left
      subst hc
      rcases h.2 with ⟨hv, h0⟩ | ⟨g', cap', cur, hv, _, _, hn, _⟩
      · simp at hv
      · simp only [Value.slice.injEq] at hv
        obtain ⟨_, _, rfl⟩ := hv
        obtain rfl : n = 0 := by omega
        have := h.1
        simp at this
        exact ⟨this, rfl, rfl⟩
    · refine .inr ⟨g, rfl, h.1, ?_⟩
      rcases h.2 with h2 | ⟨g', cap', cur, hv, hb, hg, rest⟩
      · exact .inl h2
      · refine .inr ⟨g', cap', cur, hv, hb, ?_, rest⟩
        simp only [Value.slice.injEq, Option.some.injEq, Addr.mk.injEq] at hv
        obtain ⟨⟨rfl, _⟩, _⟩ := hv
        rw [hk g (by simp [rowOf, hc])]
        exact hg
theorem Kept.own {C D : Nat} {w w' : World} (hk : Kept C D w w') {e : TypeId} {size B : Nat} {ao : Option Addr} {n cap : Nat} {cs : List Value} (h : OwnC e size B w ao n cap cs) (hr : ∀ b, rowOf ao cap = some b → b < C ∨ D ≤ b) : OwnC e size B w' ao n cap cs :=
  OwnC.same h fun b hb => hk.block b (OwnC.rowLt h b hb).2 (hr b hb)
theorem Kept.ownI {C D : Nat} {w w' : World} (hk : Kept C D w w') {B : Nat} {ao : Option Addr} {n cap : Nat} {xs : List Int} (h : OwnI B w ao n cap xs) (hr : ∀ b, rowOf ao cap = some b → b < C ∨ D ≤ b) : OwnI B w' ao n cap xs := ⟨h.1, h.2.1, hk.own h.2.2 hr⟩
theorem Kept.ownSt {C D : Nat} {w w' : World} (hk : Kept C D w w') {B : Nat} {ao : Option Addr} {n cap : Nat} {ss : List ByteArray} (h : OwnSt B w ao n cap ss) (hr : ∀ b, rowOf ao cap = some b → b < C ∨ D ≤ b) : OwnSt B w' ao n cap ss := ⟨h.1, h.2.1, hk.own h.2.2 hr⟩
/-- Texts between C and D, not in block g, that may be written. -/
def StrRow (C D g : Nat) (w : World) (h : Option Addr) (m : Nat) : Prop := ∀ i, i < m → ∃ b o, h = some ⟨b, o, none⟩ ∧ C ≤ b ∧ b < D ∧ b ≠ g ∧ (∃ s, w.cell? ⟨b, o + i, none⟩ = some (.string s)) ∧ w.frozen? ⟨b, o + i, none⟩ = false
def LineRow (g : Nat) (w : World) (ls : List Ln) (hs : List (Option Addr × Nat)) : Prop := ∀ (k : Nat) (l : Ln) (h : Option Addr × Nat), ls[k]? = some l → hs[k]? = some h →
  w.cell? ⟨g, k * 7 + 3, none⟩ = some (.slice h.1 l.parts.length h.2) ∧ (∀ j, j < 7 → ∃ v, w.cell? ⟨g, k * 7 + j, none⟩ = some v) ∧ ∀ j, w.frozen? ⟨g, k * 7 + j, none⟩ = false
structure WL (C D g : Nat) (w : World) (ls : List Ln) (hs : List (Option Addr × Nat)) : Prop where
  lines : LineRow g w ls hs
  parts : ∀ (k : Nat) (l : Ln) (h : Option Addr × Nat), ls[k]? = some l → hs[k]? = some h → StrRow C D g w h.1 l.parts.length
  lo : C ≤ g
  hi : g < D
  size : D ≤ w.heap.size
theorem WL.below {C D g E : Nat} {w w' : World} {ls : List Ln} {hs : List (Option Addr × Nat)} (h : WL C D g w ls hs) (hb : Below E w w') (hE : D ≤ E) : WL C D g w' ls hs := by
  refine ⟨fun k l x a b => ?_, fun k l x a b i hi => ?_, h.lo, h.hi, Nat.le_trans h.size hb.size⟩
  · obtain ⟨h1, h2, h3⟩ := h.lines k l x a b
    have hg : ∀ o, (⟨g, o, none⟩ : Addr).block < E := fun o => Nat.lt_of_lt_of_le h.hi hE
    exact ⟨(hb.cell (hg _)).trans h1, fun j hj => by obtain ⟨v, hv⟩ := h2 j hj; exact ⟨v, (hb.cell (hg _)).trans hv⟩, fun j => (hb.frozen (hg _)).trans (h3 j)⟩
  · obtain ⟨b, o, e1, e2, e3, e4, ⟨s, e5⟩, e6⟩ := h.parts k l x a b i hi
    have hg : (⟨b, o + i, none⟩ : Addr).block < E := Nat.lt_of_lt_of_le e3 hE
    exact ⟨b, o, e1, e2, e3, e4, ⟨s, (hb.cell hg).trans e5⟩, (hb.frozen hg).trans e6⟩
theorem WL.setStr {C D g : Nat} {w : World} {ls : List Ln} {hs : List (Option Addr × Nat)} (h : WL C D g w ls hs) (b o : Nat) (t : ByteArray) (hb : b ≠ g) : WL C D g (w.setCell ⟨b, o, none⟩ (.string t)) ls hs := by
  refine ⟨fun k l x a c => ?_, fun k l x a c i hi => ?_, h.lo, h.hi, by have := h.size; simpa using this⟩
  · obtain ⟨h1, h2, h3⟩ := h.lines k l x a c
    exact ⟨(World.cell?_setCell_far _ _ _ _ hb).trans h1, fun j hj => by obtain ⟨v, hv⟩ := h2 j hj; exact ⟨v, (World.cell?_setCell_far _ _ _ _ hb).trans hv⟩, fun j => (World.frozen?_setCell _ _ _ _).trans (h3 j)⟩
  · obtain ⟨b', o', e1, e2, e3, e4, ⟨s, e5⟩, e6⟩ := h.parts k l x a c i hi
    refine ⟨b', o', e1, e2, e3, e4, ?_, (World.frozen?_setCell _ _ _ _).trans e6⟩
    by_cases he : (⟨b, o, none⟩ : Addr) = ⟨b', o' + i, none⟩
    · rw [← he] at e5 ⊢
      exact ⟨t, World.cell?_setCell_same _ _ _ e5⟩
    · exact ⟨s, (World.cell?_setCell_other _ _ _ _ he).trans e5⟩
theorem WL.setLine {C D g : Nat} {w : World} {ls : List Ln} {hs : List (Option Addr × Nat)} (h : WL C D g w ls hs) (k j : Nat) (hj : j < 7) (hj3 : j ≠ 3) (v : Value) : WL C D g (w.setCell ⟨g, k * 7 + j, none⟩ v) ls hs := by
  refine ⟨fun k' l x a c => ?_, fun k' l x a c i hi => ?_, h.lo, h.hi, by have := h.size; simpa using this⟩
  · obtain ⟨h1, h2, h3⟩ := h.lines k' l x a c
    refine ⟨(World.cell?_setCell_other _ _ _ _ (by simp only [ne_eq, Addr.mk.injEq, true_and, and_true]; omega)).trans h1, fun j' hj' => ?_, fun j' => (World.frozen?_setCell _ _ _ _).trans (h3 j')⟩
    obtain ⟨u, hu⟩ := h2 j' hj'
    by_cases he : (⟨g, k * 7 + j, none⟩ : Addr) = ⟨g, k' * 7 + j', none⟩
    · rw [← he] at hu ⊢
      exact ⟨v, World.cell?_setCell_same _ _ _ hu⟩
    · exact ⟨u, (World.cell?_setCell_other _ _ _ _ he).trans hu⟩
  · obtain ⟨b', o', e1, e2, e3, e4, ⟨s, e5⟩, e6⟩ := h.parts k' l x a c i hi
    exact ⟨b', o', e1, e2, e3, e4, ⟨s, (World.cell?_setCell_far _ _ _ _ (by exact fun e => e4 e.symm)).trans e5⟩, (World.frozen?_setCell _ _ _ _).trans e6⟩
theorem OwnSt.row {B D g : Nat} {w : World} {ao : Option Addr} {n cap : Nat} {ss : List ByteArray} (h : OwnSt B w ao n cap ss) (hg : g < B) (hD : w.heap.size ≤ D) : StrRow B D g w ao n := by
  intro i hi
  obtain ⟨h1, h2, h3⟩ := h
  obtain ⟨b, rfl, hb, hlt, hrow⟩ := h3.some (by omega)
  refine ⟨b, 0, rfl, hb, by omega, by omega, ?_, ?_⟩
  · rw [Nat.zero_add, World.ownsRow.cellAt hrow i (by omega), List.getElem?_map, List.getElem?_eq_getElem (by omega)]
    exact ⟨_, rfl⟩
  · rw [Nat.zero_add]; exact World.ownsRow.frozenAt hrow i
theorem OwnL.wl {C g n : Nat} {w : World} {ls : List Ln} (h : OwnL g w n ls) (hC : C ≤ g) : ∃ hs : List (Option Addr × Nat), hs.length = n ∧ WL C w.heap.size g w ls hs := by
  obtain ⟨h1, h2, h3, hs, h4, h5, h6⟩ := h
  refine ⟨hs, h4, ⟨fun k l x a b => ?_, fun k l x a b i hi => ?_, hC, h3, Nat.le_refl _⟩⟩
  · have hk : k < n := by rw [← h1]; exact (List.getElem?_eq_some_iff.1 a).1
    have at' : ∀ (j : Nat) (v : Value), (lineCells l x)[j]? = some v → w.cell? ⟨g, k * 7 + j, none⟩ = some v := fun j v hv => by
      have hj : j < 7 := (List.getElem?_eq_some_iff.1 hv).1
      rw [World.ownsRow.cellAt h5 (k * 7 + j) (by omega)]
      exact linesCells_at ls hs k l x a b j v hv
    refine ⟨at' 3 _ rfl, fun j hj => ?_, fun j => World.ownsRow.frozenAt h5 _⟩
    exact ⟨(lineCells l x)[j]'(by exact hj), at' j _ (List.getElem?_eq_getElem (by exact hj))⟩
  · obtain ⟨b', o', e1, e2, e3⟩ := (h6 k l x a b).row (g := g) (by omega) (Nat.le_refl _) i hi
    exact ⟨b', o', e1, by omega, e3⟩
end Go.Proofs.Ytdlddkgmjpmenaa
/-
  The language: marks in the laws: all lines of a program.
-/
namespace Go.Proofs.Ytdlddkgmjpmenaa
open Go.RowKit
set_option linter.unusedVariables false
set_option linter.unusedSimpArgs false

theorem foldl_ge (l : List Nat) : ∀ a : Nat, a ≤ l.foldl (· + ·) a := by
  induction l with
  | nil => intro a; exact Nat.le_refl _
  | cons x r ih => intro a; exact Nat.le_trans (Nat.le_add_right a x) (ih (a + x))
theorem partsSum_le (ls : List Ln) (k : Nat) : partsSum (ls.take k) ≤ partsSum ls := by
  have e : partsSum ls = ((ls.drop k).map fun l => l.parts.length).foldl (· + ·) (partsSum (ls.take k)) := by
    unfold partsSum
    rw [← List.foldl_append, ← List.map_append, List.take_append_drop]
  rw [e]
  exact foldl_ge _ _
end Go.Proofs.Ytdlddkgmjpmenaa
/-
  The language: marks in the laws: texts that a call has handed back.
-/
namespace Go.Proofs.Ytdlddkgmjpmenaa
open Go.RowKit
set_option linter.unusedVariables false
set_option linter.unusedSimpArgs false

def marksT (k : Nat) : Nat → List ByteArray
  | 0 => []
  | n + 1 => markT k :: marksT (k + 1) n
theorem marksT_length : ∀ (n k : Nat), (marksT k n).length = n
  | 0, _ => rfl
  | n + 1, k => by rw [marksT, List.length_cons, marksT_length n]
theorem marksT_get : ∀ (n k i : Nat), i < n → (marksT k n)[i]? = some (markT (k + i))
  | 0, _, _, h => by omega
  | n + 1, k, 0, _ => by simp [marksT]
  | n + 1, k, i + 1, h => by
    rw [marksT, List.getElem?_cons_succ, marksT_get n (k + 1) i (by omega)]
    congr 2; omega
end Go.Proofs.Ytdlddkgmjpmenaa
/-
  The language: a program that a call has handed back: its lines and their parts, each in a row of its own.
-/
namespace Go.Proofs.Ytdlddkgmjpmenaa
open Go.RowKit
set_option linter.unusedVariables false
set_option linter.unusedSimpArgs false

/-- Rows of elements of two types are apart. -/
theorem ownC_apart {e e' : TypeId} {z z' C D : Nat} {w : World} {ao bo : Option Addr} {n cap m d : Nat} {xs ys : List Value} (h : OwnC e z C w ao n cap xs) (k : OwnC e' z' D w bo m d ys) (hne : e ≠ e') : ∀ p q, rowOf ao cap = some p → rowOf bo d = some q → p ≠ q := by
  intro p q hp hq he
  subst he
  rcases h with ⟨_, _, h0⟩ | ⟨g, rfl, hr⟩
  · subst h0; simp [rowOf] at hp
  rcases k with ⟨_, _, k0⟩ | ⟨g', rfl, kr⟩
  · subst k0; simp [rowOf] at hq
  have hg : g = p := by unfold rowOf at hp; split at hp <;> simp_all
  have hg' : g' = p := by unfold rowOf at hq; split at hq <;> simp_all
  subst hg
  subst hg'
  rcases hr.2 with ⟨hv, _⟩ | ⟨b, cap1, cur1, hv, _, hb, _⟩
  · cases hv
  rcases kr.2 with ⟨kv, _⟩ | ⟨b', cap2, cur2, kv, _, kb, _⟩
  · cases kv
  simp only [Value.slice.injEq, Option.some.injEq, Addr.mk.injEq] at hv kv
  obtain ⟨⟨rfl, _⟩, _⟩ := hv
  obtain ⟨⟨rfl, _⟩, _⟩ := kv
  rw [hb] at kb
  simp only [Option.some.injEq, Obj.cells.injEq] at kb
  exact hne kb.2.1
def Apart (hs : List (Option Addr × Nat)) : Prop := ∀ (i j : Nat) (x y : Option Addr × Nat), hs[i]? = some x → hs[j]? = some y → i ≠ j → ∀ p, rowOf x.1 x.2 = some p → rowOf y.1 y.2 ≠ some p
structure TT (B : Nat) (w : World) (ao : Option Addr) (n cap : Nat) (hs : List (Option Addr × Nat)) (ls : List Ln) : Prop where
  len : ls.length = n
  le : n ≤ 1000000000
  hlen : hs.length = n
  row : OwnC 54 7 B w ao n cap (linesCells ls hs)
  parts : ∀ (k : Nat) (l : Ln) (x : Option Addr × Nat), ls[k]? = some l → hs[k]? = some x → OwnSt B w x.1 l.parts.length x.2 l.parts
  apart : Apart hs
section
variable {B C D n cap : Nat} {w w' : World} {ao : Option Addr} {hs : List (Option Addr × Nat)} {ls : List Ln}
theorem TT.below (h : TT B w ao n cap hs ls) (hb : Below C w w') (hC : w.heap.size ≤ C) : TT B w' ao n cap hs ls :=
  ⟨h.len, h.le, h.hlen, h.row.below hb hC, fun k l x a b => (h.parts k l x a b).below hb hC, h.apart⟩
theorem TT.up (h : TT B w ao n cap hs ls) (hC : C ≤ B) : TT C w ao n cap hs ls :=
  ⟨h.len, h.le, h.hlen, h.row.up hC, fun k l x a b => (h.parts k l x a b).up hC, h.apart⟩
theorem TT.kept (h : TT B w ao n cap hs ls) (hk : Kept C D w w') (hD : D ≤ B) : TT B w' ao n cap hs ls :=
  ⟨h.len, h.le, h.hlen, hk.own h.row (fun b hb => .inr (by have := (h.row.rowLt b hb).1; omega)), fun k l x a b => hk.ownSt (h.parts k l x a b) (fun p hp => .inr (by have := ((h.parts k l x a b).rowLt p hp).1; omega)), h.apart⟩
theorem TT.lns (h : TT B w ao n cap hs ls) : Lns w w.heap.size ao n ls :=
  ⟨h.len, h.le, hs, h.hlen, h.row.cellsAt, fun k l x a b => (h.parts k l x a b).strs⟩
theorem TT.at (h : TT B w ao n cap hs ls) {k : Nat} {l : Ln} (hl : ls[k]? = some l) : ∃ g x, ao = some ⟨g, 0, none⟩ ∧ hs[k]? = some x ∧ B ≤ g ∧ g < w.heap.size ∧ w.ownsRow B 54 7 (.slice (some ⟨g, 0, none⟩) n cap) n (linesCells ls hs) ∧
    (∀ (j : Nat) (v : Value), (lineCells l x)[j]? = some v → w.cell? ⟨g, k * 7 + j, none⟩ = some v) ∧ (∀ j, w.frozen? ⟨g, j, none⟩ = false) := by
  have hk : k < n := by rw [← h.len]; exact (List.getElem?_eq_some_iff.1 hl).1
  obtain ⟨g, rfl, h1, h2, h3⟩ := h.row.some (by omega)
  obtain ⟨x, hx⟩ := getL_at (i := k) h.hlen hk
  refine ⟨g, x, rfl, hx, h1, h2, h3, fun j v hv => ?_, fun j => World.ownsRow.frozenAt h3 j⟩
  have hj : j < 7 := (List.getElem?_eq_some_iff.1 hv).1
  rw [World.ownsRow.cellAt h3 (k * 7 + j) (by omega)]
  exact linesCells_at ls hs k l x hl hx j v hv
theorem linesCells_set : ∀ (ls : List Ln) (hs : List (Option Addr × Nat)) (k j : Nat) (l l' : Ln) (x : Option Addr × Nat) (v : Value), ls[k]? = some l → hs[k]? = some x → j < 7 → lineCells l' x = (lineCells l x).set j v → linesCells (ls.set k l') hs = (linesCells ls hs).set (k * 7 + j) v
  | [], _, k, j, l, l', x, v, e, _, _, _ => by simp at e
  | _ :: _, [], k, j, l, l', x, v, _, e, _, _ => by simp at e
  | l0 :: ls, h0 :: hs, 0, j, l, l', x, v, e1, e2, hj, e3 => by
    simp at e1 e2
    subst e1
    subst e2
    rw [List.set_cons_zero, linesCells, linesCells, Nat.zero_mul, Nat.zero_add, List.set_append_left _ _ (by exact hj), e3]
  | l0 :: ls, h0 :: hs, k + 1, j, l, l', x, v, e1, e2, hj, e3 => by
    simp at e1 e2
    rw [List.set_cons_succ, linesCells, linesCells, linesCells_set ls hs k j l l' x v e1 e2 hj e3]
    have hl : (lineCells l0 h0).length = 7 := rfl
    rw [List.set_append_right _ _ (by rw [hl]; omega), hl]
    congr 2
    omega
theorem linesCells_parts : ∀ (ls : List Ln) (hs : List (Option Addr × Nat)) (k : Nat) (l l' : Ln), ls[k]? = some l → (∀ x, lineCells l' x = lineCells l x) → linesCells (ls.set k l') hs = linesCells ls hs
  | [], _, k, l, l', e, _ => by simp at e
  | l0 :: ls, [], 0, l, l', e, _ => by simp [linesCells]
  | l0 :: ls, [], k + 1, l, l', e, _ => by simp [linesCells]
  | l0 :: ls, h0 :: hs, 0, l, l', e, e3 => by
    simp at e
    subst e
    rw [List.set_cons_zero, linesCells, linesCells, e3]
  | l0 :: ls, h0 :: hs, k + 1, l, l', e, e3 => by
    simp at e
    rw [List.set_cons_succ, linesCells, linesCells, linesCells_parts ls hs k l l' e e3]
theorem TT.set {g : Nat} (h : TT B w (some ⟨g, 0, none⟩) n cap hs ls) {k : Nat} {l : Ln} (hl : ls[k]? = some l) (j : Nat) (hj : j < 7) (l' : Ln) (v : Value) (hc : ∀ x, lineCells l' x = (lineCells l x).set j v) (hp : l'.parts = l.parts) :
    TT B (w.setCell ⟨g, k * 7 + j, none⟩ v) (some ⟨g, 0, none⟩) n cap hs (ls.set k l') := by
  obtain ⟨g', x, hg, hx, h1, h2, h3, h4, h5⟩ := h.at hl
  simp only [Option.some.injEq, Addr.mk.injEq] at hg
  obtain ⟨rfl, _⟩ := hg
  have hk : k < n := by rw [← h.len]; exact (List.getElem?_eq_some_iff.1 hl).1
  obtain ⟨q1, q2⟩ := World.ownsRow.stored h3 (k * 7 + j) v
  rw [← linesCells_set ls hs k j l l' x v hl hx hj (hc x)] at q1
  refine ⟨by rw [List.length_set]; exact h.len, h.le, h.hlen, .inr ⟨g, rfl, q1⟩, fun i y z a b => ?_, h.apart⟩
  have hy : ∃ y', ls[i]? = some y' ∧ y.parts = y'.parts := by
    by_cases hik : k = i
    · subst hik
      rw [List.getElem?_set_self (by rw [h.len]; exact hk)] at a
      simp only [Option.some.injEq] at a
      subst a
      exact ⟨l, hl, hp⟩
    · rw [List.getElem?_set_ne hik] at a
      exact ⟨y, a, rfl⟩
  obtain ⟨y', a', e⟩ := hy
  rw [e]
  refine (h.parts i y' z a' b).other q2 fun p q hp hq => ?_
  have hrow : rowOf (some ⟨g, 0, none⟩) cap = some g := by
    have hcap : cap ≠ 0 := by
      rcases h3.2 with ⟨hv, _⟩ | ⟨b', cap1, cur1, hv, _, hb, hn', _⟩
      · cases hv
      · simp only [Value.slice.injEq] at hv
        obtain ⟨_, _, rfl⟩ := hv
        omega
    simp [rowOf, hcap]
  simp only [Option.some.injEq] at hq
  subst hq
  exact ownC_apart (h.parts i y' z a' b).2.2 h.row (by decide) p _ hp hrow
end
def markLn (q : Nat) (l : Ln) : Ln := ⟨(q : Int), markT (q + 1), markT (q + 2), marksT (q + 3) l.parts.length, ((q + 3 + l.parts.length : Nat) : Int), ((q + 4 + l.parts.length : Nat) : Int), ((q + 5 + l.parts.length : Nat) : Int)⟩
def markL (q : Nat) : List Ln → List Ln
  | [] => []
  | l :: ls => markLn q l :: markL (q + 6 + l.parts.length) ls
theorem markL_length : ∀ (ls : List Ln) (q : Nat), (markL q ls).length = ls.length
  | [], _ => rfl
  | l :: ls, q => by rw [markL, List.length_cons, markL_length ls, List.length_cons]
theorem partsSum_cons (l : Ln) (ls : List Ln) : partsSum (l :: ls) = l.parts.length + partsSum ls := by
  unfold partsSum
  rw [List.map_cons, List.foldl_cons, Nat.zero_add]
  have : ∀ (xs : List Nat) (a : Nat), xs.foldl (· + ·) a = a + xs.foldl (· + ·) 0 := by
    intro xs
    induction xs with
    | nil => intro a; rfl
    | cons x r ih => intro a; rw [List.foldl_cons, ih, List.foldl_cons, Nat.zero_add, ih x]; omega
  rw [this]
theorem markL_get : ∀ (ls : List Ln) (q k : Nat) (l : Ln), ls[k]? = some l → (markL q ls)[k]? = some (markLn (q + 6 * k + partsSum (ls.take k)) l)
  | [], q, k, l, e => by simp at e
  | l0 :: ls, q, 0, l, e => by
    simp at e
    subst e
    simp [markL, partsSum]
  | l0 :: ls, q, k + 1, l, e => by
    simp at e
    rw [markL, List.getElem?_cons_succ, markL_get ls _ k l e, List.take_succ_cons, partsSum_cons]
    congr 2
    omega
end Go.Proofs.Ytdlddkgmjpmenaa
/-
  The language: a program that a call has handed back is written over, and read again.
-/
namespace Go.Proofs.Ytdlddkgmjpmenaa
open Go.RowKit
set_option linter.unusedVariables false
set_option linter.unusedSimpArgs false

section
variable {B C D n cap g k : Nat} {w w' : World} {hs : List (Option Addr × Nat)} {ms : List Ln} {l1 l2 : Ln} {x : Option Addr × Nat}
theorem TT.lt (h : TT B w (some ⟨g, 0, none⟩) n cap hs (ms.set k l1)) (hk : k < n) : (ms.set k l1)[k]? = some l1 := by
  have := h.len
  rw [List.length_set] at this
  rw [List.getElem?_set_self (by omega)]
theorem TT.cellAt (h : TT B w (some ⟨g, 0, none⟩) n cap hs (ms.set k l1)) (hk : k < n) (hx : hs[k]? = some x) {j : Nat} {v : Value} (hv : (lineCells l1 x)[j]? = some v) : w.cell? ⟨g, k * 7 + j, none⟩ = some v := by
  obtain ⟨g', x', hg, hx', h1, h2, h3, h4, h5⟩ := h.at (h.lt hk)
  simp only [Option.some.injEq, Addr.mk.injEq] at hg
  obtain ⟨rfl, _⟩ := hg
  rw [hx] at hx'
  simp only [Option.some.injEq] at hx'
  subst hx'
  exact h4 j v hv
theorem TT.free (h : TT B w (some ⟨g, 0, none⟩) n cap hs (ms.set k l1)) (hk : k < n) (j : Nat) : w.frozen? ⟨g, j, none⟩ = false := by
  obtain ⟨g', x', hg, hx', h1, h2, h3, h4, h5⟩ := h.at (h.lt hk)
  simp only [Option.some.injEq, Addr.mk.injEq] at hg
  obtain ⟨rfl, _⟩ := hg
  exact h5 j
theorem TT.put (h : TT B w (some ⟨g, 0, none⟩) n cap hs (ms.set k l1)) (hk : k < n) (j : Nat) (hj : j < 7) (l2 : Ln) (v : Value) (hc : ∀ x, lineCells l2 x = (lineCells l1 x).set j v) (hp : l2.parts = l1.parts) :
    TT B (w.setCell ⟨g, k * 7 + j, none⟩ v) (some ⟨g, 0, none⟩) n cap hs (ms.set k l2) := by
  have := h.set (h.lt hk) j hj l2 v hc hp
  rwa [List.set_set] at this
theorem TT.window (h : TT B w (some ⟨g, 0, none⟩) n cap hs (ms.set k l1)) (hk : k < n) (hx : hs[k]? = some x) (hB : B ≤ w.heap.size) : ∃ C D, (∀ p, rowOf x.1 x.2 = some p → C ≤ p ∧ p < D) ∧ (∀ q, rowOf x.1 x.2 ≠ some q → q < C ∨ D ≤ q) ∧ B ≤ C ∧ C ≤ w.heap.size := by
  have ho := h.parts k l1 x (h.lt hk) hx
  cases hr : rowOf x.1 x.2 with
  | none => exact ⟨B, B, (fun p hp => by cases hp), (fun q _ => by omega), Nat.le_refl _, hB⟩
  | some p =>
    have := ho.rowLt p hr
    exact ⟨p, p + 1, (fun q hq => by simp only [Option.some.injEq] at hq; omega), (fun q hq => by simp only [ne_eq, Option.some.injEq] at hq; omega), this.1, by omega⟩
theorem TT.putParts (h : TT B w (some ⟨g, 0, none⟩) n cap hs (ms.set k l1)) (hk : k < n) (hx : hs[k]? = some x) (hke : Kept C D w w') (hout : ∀ q, rowOf x.1 x.2 ≠ some q → q < C ∨ D ≤ q)
    (l2 : Ln) (ho : OwnSt B w' x.1 l2.parts.length x.2 l2.parts) (hc : ∀ y, lineCells l2 y = lineCells l1 y) : TT B w' (some ⟨g, 0, none⟩) n cap hs (ms.set k l2) := by
  have hl := h.lt hk
  have hpx := h.parts k l1 x hl hx
  have hlen := h.len
  rw [List.length_set] at hlen
  have e : linesCells (ms.set k l2) hs = linesCells (ms.set k l1) hs := by
    rw [← linesCells_parts (ms.set k l1) hs k l1 l2 hl hc, List.set_set]
  refine ⟨by rw [List.length_set]; exact hlen, h.le, h.hlen, ?_, fun i y z a b => ?_, h.apart⟩
  · rw [e]
    exact hke.own h.row (fun b hb => hout b fun hb' => ownC_apart hpx.2.2 h.row (by decide) b b hb' hb rfl)
  · by_cases hik : k = i
    · subst hik
      rw [List.getElem?_set_self (by omega)] at a
      simp only [Option.some.injEq] at a
      subst a
      rw [hx] at b
      simp only [Option.some.injEq] at b
      subst b
      exact ho
    · rw [List.getElem?_set_ne hik] at a
      have a' : (ms.set k l1)[i]? = some y := by rw [List.getElem?_set_ne hik]; exact a
      exact hke.ownSt (h.parts i y z a' b) (fun p hp => hout p fun hp' => h.apart k i x z hx b hik p hp' hp)
end
theorem List.set_getElem?_self' {α : Type} {xs : List α} {k : Nat} {x : α} (h : xs[k]? = some x) : xs.set k x = xs := by
  apply List.ext_getElem?
  intro i
  by_cases hi : k = i
  · subst hi
    rw [List.getElem?_set_self (List.getElem?_eq_some_iff.1 h).1, h]
  · rw [List.getElem?_set_ne hi]
theorem wname' {B : Nat} {w w' : World} (h : Below B w w') : ∃ W, W = w' := ⟨_, rfl⟩
end Go.Proofs.Ytdlddkgmjpmenaa
/-
  The language: a program that was written over reads as it was written.
-/
namespace Go.Proofs.Ytdlddkgmjpmenaa
open Go.RowKit
set_option linter.unusedVariables false
set_option linter.unusedSimpArgs false

end Go.Proofs.Ytdlddkgmjpmenaa
