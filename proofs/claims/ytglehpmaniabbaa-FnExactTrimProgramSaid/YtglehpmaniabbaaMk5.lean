/-
  The language: a program that a call has handed back: its lines and their parts, each in a row of its own.
-/
import Derived.Test.YtglehpmaniabbaaMk4
namespace Go.Proofs.Ytglehpmaniabbaa
open Go.RowKit
set_option linter.unusedVariables false
set_option linter.unusedSimpArgs false

/-- Rows of elements of two types are apart. -/
theorem ownC_apart {e e' : TypeId} {z z' C D : Nat} {w : World} {ao bo : Option Addr} {n cap m d : Nat} {xs ys : List Value} (h : OwnC e z C w ao n cap xs) (k : OwnC e' z' D w bo m d ys) (hne : e ≠ e') : ∀ p q, rowOf ao cap = some p → rowOf bo d = some q → p ≠ q := by
  intro p q hp hq he
  subst he
  rcases h with ⟨_, _, h0⟩ | ⟨g, rfl, hr⟩
  · subst h0; simp [rowOf] at hp
  rcases k with ⟨_, _, k0⟩ | ⟨g', rfl, kr⟩
  · subst k0; simp [rowOf] at hq
  have hg : g = p := by unfold rowOf at hp; split at hp <;> simp_all
  have hg' : g' = p := by unfold rowOf at hq; split at hq <;> simp_all
  subst hg
  subst hg'
  rcases hr.2 with ⟨hv, _⟩ | ⟨b, cap1, cur1, hv, _, hb, _⟩
  · cases hv
  rcases kr.2 with ⟨kv, _⟩ | ⟨b', cap2, cur2, kv, _, kb, _⟩
  · cases kv
  simp only [Value.slice.injEq, Option.some.injEq, Addr.mk.injEq] at hv kv
  obtain ⟨⟨rfl, _⟩, _⟩ := hv
  obtain ⟨⟨rfl, _⟩, _⟩ := kv
  rw [hb] at kb
  simp only [Option.some.injEq, Obj.cells.injEq] at kb
  exact hne kb.2.1
def Apart (hs : List (Option Addr × Nat)) : Prop := ∀ (i j : Nat) (x y : Option Addr × Nat), hs[i]? = some x → hs[j]? = some y → i ≠ j → ∀ p, rowOf x.1 x.2 = some p → rowOf y.1 y.2 ≠ some p
structure TT (B : Nat) (w : World) (ao : Option Addr) (n cap : Nat) (hs : List (Option Addr × Nat)) (ls : List Ln) : Prop where
  len : ls.length = n
  le : n ≤ 1000000000
  hlen : hs.length = n
  row : OwnC 57 7 B w ao n cap (linesCells ls hs)
  parts : ∀ (k : Nat) (l : Ln) (x : Option Addr × Nat), ls[k]? = some l → hs[k]? = some x → OwnSt B w x.1 l.parts.length x.2 l.parts
  apart : Apart hs
section
variable {B C D n cap : Nat} {w w' : World} {ao : Option Addr} {hs : List (Option Addr × Nat)} {ls : List Ln}
theorem TT.below (h : TT B w ao n cap hs ls) (hb : Below C w w') (hC : w.heap.size ≤ C) : TT B w' ao n cap hs ls :=
  ⟨h.len, h.le, h.hlen, h.row.below hb hC, fun k l x a b => (h.parts k l x a b).below hb hC, h.apart⟩
theorem TT.up (h : TT B w ao n cap hs ls) (hC : C ≤ B) : TT C w ao n cap hs ls :=
  ⟨h.len, h.le, h.hlen, h.row.up hC, fun k l x a b => (h.parts k l x a b).up hC, h.apart⟩
theorem TT.kept (h : TT B w ao n cap hs ls) (hk : Kept C D w w') (hD : D ≤ B) : TT B w' ao n cap hs ls :=
  ⟨h.len, h.le, h.hlen, hk.own h.row (fun b hb => .inr (by have := (h.row.rowLt b hb).1; omega)), fun k l x a b => hk.ownSt (h.parts k l x a b) (fun p hp => .inr (by have := ((h.parts k l x a b).rowLt p hp).1; omega)), h.apart⟩
theorem TT.lns (h : TT B w ao n cap hs ls) : Lns w w.heap.size ao n ls :=
  ⟨h.len, h.le, hs, h.hlen, h.row.cellsAt, fun k l x a b => (h.parts k l x a b).strs⟩
theorem TT.at (h : TT B w ao n cap hs ls) {k : Nat} {l : Ln} (hl : ls[k]? = some l) : ∃ g x, ao = some ⟨g, 0, none⟩ ∧ hs[k]? = some x ∧ B ≤ g ∧ g < w.heap.size ∧ w.ownsRow B 57 7 (.slice (some ⟨g, 0, none⟩) n cap) n (linesCells ls hs) ∧
    (∀ (j : Nat) (v : Value), (lineCells l x)[j]? = some v → w.cell? ⟨g, k * 7 + j, none⟩ = some v) ∧ (∀ j, w.frozen? ⟨g, j, none⟩ = false) := by
  have hk : k < n := by rw [← h.len]; exact (List.getElem?_eq_some_iff.1 hl).1
  obtain ⟨g, rfl, h1, h2, h3⟩ := h.row.some (by omega)
  obtain ⟨x, hx⟩ := getL_at (i := k) h.hlen hk
  refine ⟨g, x, rfl, hx, h1, h2, h3, fun j v hv => ?_, fun j => World.ownsRow.frozenAt h3 j⟩
  have hj : j < 7 := (List.getElem?_eq_some_iff.1 hv).1
  rw [World.ownsRow.cellAt h3 (k * 7 + j) (by omega)]
  exact linesCells_at ls hs k l x hl hx j v hv
theorem linesCells_set : ∀ (ls : List Ln) (hs : List (Option Addr × Nat)) (k j : Nat) (l l' : Ln) (x : Option Addr × Nat) (v : Value), ls[k]? = some l → hs[k]? = some x → j < 7 → lineCells l' x = (lineCells l x).set j v → linesCells (ls.set k l') hs = (linesCells ls hs).set (k * 7 + j) v
  | [], _, k, j, l, l', x, v, e, _, _, _ => by simp at e
  | _ :: _, [], k, j, l, l', x, v, _, e, _, _ => by simp at e
  | l0 :: ls, h0 :: hs, 0, j, l, l', x, v, e1, e2, hj, e3 => by
    simp at e1 e2
    subst e1
    subst e2
    rw [List.set_cons_zero, linesCells, linesCells, Nat.zero_mul, Nat.zero_add, List.set_append_left _ _ (by exact hj), e3]
  | l0 :: ls, h0 :: hs, k + 1, j, l, l', x, v, e1, e2, hj, e3 => by
    simp at e1 e2
    rw [List.set_cons_succ, linesCells, linesCells, linesCells_set ls hs k j l l' x v e1 e2 hj e3]
    have hl : (lineCells l0 h0).length = 7 := rfl
    rw [List.set_append_right _ _ (by rw [hl]; omega), hl]
    congr 2
    omega
theorem linesCells_parts : ∀ (ls : List Ln) (hs : List (Option Addr × Nat)) (k : Nat) (l l' : Ln), ls[k]? = some l → (∀ x, lineCells l' x = lineCells l x) → linesCells (ls.set k l') hs = linesCells ls hs
  | [], _, k, l, l', e, _ => by simp at e
  | l0 :: ls, [], 0, l, l', e, _ => by simp [linesCells]
  | l0 :: ls, [], k + 1, l, l', e, _ => by simp [linesCells]
  | l0 :: ls, h0 :: hs, 0, l, l', e, e3 => by
    simp at e
    subst e
    rw [List.set_cons_zero, linesCells, linesCells, e3]
  | l0 :: ls, h0 :: hs, k + 1, l, l', e, e3 => by
    simp at e
    rw [List.set_cons_succ, linesCells, linesCells, linesCells_parts ls hs k l l' e e3]
theorem TT.set {g : Nat} (h : TT B w (some ⟨g, 0, none⟩) n cap hs ls) {k : Nat} {l : Ln} (hl : ls[k]? = some l) (j : Nat) (hj : j < 7) (l' : Ln) (v : Value) (hc : ∀ x, lineCells l' x = (lineCells l x).set j v) (hp : l'.parts = l.parts) :
    TT B (w.setCell ⟨g, k * 7 + j, none⟩ v) (some ⟨g, 0, none⟩) n cap hs (ls.set k l') := by
  obtain ⟨g', x, hg, hx, h1, h2, h3, h4, h5⟩ := h.at hl
  simp only [Option.some.injEq, Addr.mk.injEq] at hg
  obtain ⟨rfl, _⟩ := hg
  have hk : k < n := by rw [← h.len]; exact (List.getElem?_eq_some_iff.1 hl).1
  obtain ⟨q1, q2⟩ := World.ownsRow.stored h3 (k * 7 + j) v
  rw [← linesCells_set ls hs k j l l' x v hl hx hj (hc x)] at q1
  refine ⟨by rw [List.length_set]; exact h.len, h.le, h.hlen, .inr ⟨g, rfl, q1⟩, fun i y z a b => ?_, h.apart⟩
  have hy : ∃ y', ls[i]? = some y' ∧ y.parts = y'.parts := by
    by_cases hik : k = i
    · subst hik
      rw [List.getElem?_set_self (by rw [h.len]; exact hk)] at a
      simp only [Option.some.injEq] at a
      subst a
      exact ⟨l, hl, hp⟩
    · rw [List.getElem?_set_ne hik] at a
      exact ⟨y, a, rfl⟩
  obtain ⟨y', a', e⟩ := hy
  rw [e]
  refine (h.parts i y' z a' b).other q2 fun p q hp hq => ?_
  have hrow : rowOf (some ⟨g, 0, none⟩) cap = some g := by
    have hcap : cap ≠ 0 := by
      rcases h3.2 with ⟨hv, _⟩ | ⟨b', cap1, cur1, hv, _, hb, hn', _⟩
      · cases hv
      · simp only [Value.slice.injEq] at hv
        obtain ⟨_, _, rfl⟩ := hv
        omega
    simp [rowOf, hcap]
  simp only [Option.some.injEq] at hq
  subst hq
  exact ownC_apart (h.parts i y' z a' b).2.2 h.row (by decide) p _ hp hrow
end
def markLn (q : Nat) (l : Ln) : Ln := ⟨(q : Int), markT (q + 1), markT (q + 2), marksT (q + 3) l.parts.length, ((q + 3 + l.parts.length : Nat) : Int), ((q + 4 + l.parts.length : Nat) : Int), ((q + 5 + l.parts.length : Nat) : Int)⟩
def markL (q : Nat) : List Ln → List Ln
  | [] => []
  | l :: ls => markLn q l :: markL (q + 6 + l.parts.length) ls
theorem markL_length : ∀ (ls : List Ln) (q : Nat), (markL q ls).length = ls.length
  | [], _ => rfl
  | l :: ls, q => by rw [markL, List.length_cons, markL_length ls, List.length_cons]
theorem partsSum_cons (l : Ln) (ls : List Ln) : partsSum (l :: ls) = l.parts.length + partsSum ls := by
  unfold partsSum
  rw [List.map_cons, List.foldl_cons, Nat.zero_add]
  have : ∀ (xs : List Nat) (a : Nat), xs.foldl (· + ·) a = a + xs.foldl (· + ·) 0 := by
    intro xs
    induction xs with
    | nil => intro a; rfl
    | cons x r ih => intro a; rw [List.foldl_cons, ih, List.foldl_cons, Nat.zero_add, ih x]; omega
  rw [this]
theorem markL_get : ∀ (ls : List Ln) (q k : Nat) (l : Ln), ls[k]? = some l → (markL q ls)[k]? = some (markLn (q + 6 * k + partsSum (ls.take k)) l)
  | [], q, k, l, e => by simp at e
  | l0 :: ls, q, 0, l, e => by
    simp at e
    subst e
    simp [markL, partsSum]
  | l0 :: ls, q, k + 1, l, e => by
    simp at e
    rw [markL, List.getElem?_cons_succ, markL_get ls _ k l e, List.take_succ_cons, partsSum_cons]
    congr 2
    omega
end Go.Proofs.Ytglehpmaniabbaa
