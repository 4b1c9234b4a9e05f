/-
  The language: marks in the laws: a program that a law has copied is written over.
-/
import Derived.Test.YtglehpmaniabbaaMk1
namespace Go.Proofs.Ytglehpmaniabbaa
open Go.RowKit
set_option linter.unusedVariables false
set_option linter.unusedSimpArgs false

/-- Only blocks from C to D, and new ones, may have turned. -/
structure Kept (C D : Nat) (w w' : World) : Prop where
  os : w'.os = w.os
  tape : w'.tape = w.tape
  output : w'.output = w.output
  size : w.heap.size ≤ w'.heap.size
  block : ∀ k, k < w.heap.size → (k < C ∨ D ≤ k) → w'.heap[k]? = w.heap[k]?
theorem Kept.refl (C D : Nat) (w : World) : Kept C D w w := ⟨rfl, rfl, rfl, Nat.le_refl _, fun _ _ _ => rfl⟩
theorem Kept.trans {C D : Nat} {a b c : World} (h : Kept C D a b) (k : Kept C D b c) : Kept C D a c :=
  ⟨k.os.trans h.os, k.tape.trans h.tape, k.output.trans h.output, Nat.le_trans h.size k.size, fun i hi hp => (k.block i (Nat.lt_of_lt_of_le hi h.size) hp).trans (h.block i hi hp)⟩
theorem Kept.of_below {C D E : Nat} {w w' : World} (h : Below E w w') (hE : w.heap.size ≤ E) : Kept C D w w' := ⟨h.os, h.tape, h.output, h.size, fun k hk _ => h.block k (Nat.lt_of_lt_of_le hk hE)⟩
theorem Kept.set {C D : Nat} {w w' : World} (h : Kept C D w w') (p : Addr) (v : Value) (h1 : C ≤ p.block) (h2 : p.block < D) : Kept C D w (w'.setCell p v) :=
  ⟨h.os, h.tape, h.output, by have := h.size; simpa using this, fun k hk hp => (heap_setCell_other w' p k v (by omega)).trans (h.block k hk hp)⟩
theorem Kept.below {C D : Nat} {w w' : World} (h : Kept C D w w') (hC : C ≤ w.heap.size) : Below C w w' := ⟨h.os, h.tape, h.output, h.size, fun k hk => h.block k (by omega) (.inl hk)⟩
/-- What lies elsewhere is as it was. -/
theorem OwnC.same {e : TypeId} {size B : Nat} {w w' : World} {ao : Option Addr} {n cap : Nat} {cs : List Value} (h : OwnC e size B w ao n cap cs) (hk : ∀ b, rowOf ao cap = .some b → w'.heap[b]? = w.heap[b]?) : OwnC e size B w' ao n cap cs := by
  rcases h with h | ⟨g, rfl, h⟩
  · exact .inl h
  · by_cases hc : cap = 0
    · left
      subst hc
      rcases h.2 with ⟨hv, h0⟩ | ⟨g', cap', cur, hv, _, _, hn, _⟩
      · simp at hv
      · simp only [Value.slice.injEq] at hv
        obtain ⟨_, _, rfl⟩ := hv
        obtain rfl : n = 0 := by omega
        have := h.1
        simp at this
        exact ⟨this, rfl, rfl⟩
    · refine .inr ⟨g, rfl, h.1, ?_⟩
      rcases h.2 with h2 | ⟨g', cap', cur, hv, hb, hg, rest⟩
      · exact .inl h2
      · refine .inr ⟨g', cap', cur, hv, hb, ?_, rest⟩
        simp only [Value.slice.injEq, Option.some.injEq, Addr.mk.injEq] at hv
        obtain ⟨⟨rfl, _⟩, _⟩ := hv
        rw [hk g (by simp [rowOf, hc])]
        exact hg
theorem Kept.own {C D : Nat} {w w' : World} (hk : Kept C D w w') {e : TypeId} {size B : Nat} {ao : Option Addr} {n cap : Nat} {cs : List Value} (h : OwnC e size B w ao n cap cs) (hr : ∀ b, rowOf ao cap = some b → b < C ∨ D ≤ b) : OwnC e size B w' ao n cap cs :=
  OwnC.same h fun b hb => hk.block b (OwnC.rowLt h b hb).2 (hr b hb)
theorem Kept.ownI {C D : Nat} {w w' : World} (hk : Kept C D w w') {B : Nat} {ao : Option Addr} {n cap : Nat} {xs : List Int} (h : OwnI B w ao n cap xs) (hr : ∀ b, rowOf ao cap = some b → b < C ∨ D ≤ b) : OwnI B w' ao n cap xs := ⟨h.1, h.2.1, hk.own h.2.2 hr⟩
theorem Kept.ownSt {C D : Nat} {w w' : World} (hk : Kept C D w w') {B : Nat} {ao : Option Addr} {n cap : Nat} {ss : List ByteArray} (h : OwnSt B w ao n cap ss) (hr : ∀ b, rowOf ao cap = some b → b < C ∨ D ≤ b) : OwnSt B w' ao n cap ss := ⟨h.1, h.2.1, hk.own h.2.2 hr⟩
/-- Texts between C and D, not in block g, that may be written. -/
def StrRow (C D g : Nat) (w : World) (h : Option Addr) (m : Nat) : Prop := ∀ i, i < m → ∃ b o, h = some ⟨b, o, none⟩ ∧ C ≤ b ∧ b < D ∧ b ≠ g ∧ (∃ s, w.cell? ⟨b, o + i, none⟩ = some (.string s)) ∧ w.frozen? ⟨b, o + i, none⟩ = false
def LineRow (g : Nat) (w : World) (ls : List Ln) (hs : List (Option Addr × Nat)) : Prop := ∀ (k : Nat) (l : Ln) (h : Option Addr × Nat), ls[k]? = some l → hs[k]? = some h →
  w.cell? ⟨g, k * 7 + 3, none⟩ = some (.slice h.1 l.parts.length h.2) ∧ (∀ j, j < 7 → ∃ v, w.cell? ⟨g, k * 7 + j, none⟩ = some v) ∧ ∀ j, w.frozen? ⟨g, k * 7 + j, none⟩ = false
structure WL (C D g : Nat) (w : World) (ls : List Ln) (hs : List (Option Addr × Nat)) : Prop where
  lines : LineRow g w ls hs
  parts : ∀ (k : Nat) (l : Ln) (h : Option Addr × Nat), ls[k]? = some l → hs[k]? = some h → StrRow C D g w h.1 l.parts.length
  lo : C ≤ g
  hi : g < D
  size : D ≤ w.heap.size
theorem WL.below {C D g E : Nat} {w w' : World} {ls : List Ln} {hs : List (Option Addr × Nat)} (h : WL C D g w ls hs) (hb : Below E w w') (hE : D ≤ E) : WL C D g w' ls hs := by
  refine ⟨fun k l x a b => ?_, fun k l x a b i hi => ?_, h.lo, h.hi, Nat.le_trans h.size hb.size⟩
  · obtain ⟨h1, h2, h3⟩ := h.lines k l x a b
    have hg : ∀ o, (⟨g, o, none⟩ : Addr).block < E := fun o => Nat.lt_of_lt_of_le h.hi hE
    exact ⟨(hb.cell (hg _)).trans h1, fun j hj => by obtain ⟨v, hv⟩ := h2 j hj; exact ⟨v, (hb.cell (hg _)).trans hv⟩, fun j => (hb.frozen (hg _)).trans (h3 j)⟩
  · obtain ⟨b, o, e1, e2, e3, e4, ⟨s, e5⟩, e6⟩ := h.parts k l x a b i hi
    have hg : (⟨b, o + i, none⟩ : Addr).block < E := Nat.lt_of_lt_of_le e3 hE
    exact ⟨b, o, e1, e2, e3, e4, ⟨s, (hb.cell hg).trans e5⟩, (hb.frozen hg).trans e6⟩
theorem WL.setStr {C D g : Nat} {w : World} {ls : List Ln} {hs : List (Option Addr × Nat)} (h : WL C D g w ls hs) (b o : Nat) (t : ByteArray) (hb : b ≠ g) : WL C D g (w.setCell ⟨b, o, none⟩ (.string t)) ls hs := by
  refine ⟨fun k l x a c => ?_, fun k l x a c i hi => ?_, h.lo, h.hi, by have := h.size; simpa using this⟩
  · obtain ⟨h1, h2, h3⟩ := h.lines k l x a c
    exact ⟨(World.cell?_setCell_far _ _ _ _ hb).trans h1, fun j hj => by obtain ⟨v, hv⟩ := h2 j hj; exact ⟨v, (World.cell?_setCell_far _ _ _ _ hb).trans hv⟩, fun j => (World.frozen?_setCell _ _ _ _).trans (h3 j)⟩
  · obtain ⟨b', o', e1, e2, e3, e4, ⟨s, e5⟩, e6⟩ := h.parts k l x a c i hi
    refine ⟨b', o', e1, e2, e3, e4, ?_, (World.frozen?_setCell _ _ _ _).trans e6⟩
    by_cases he : (⟨b, o, none⟩ : Addr) = ⟨b', o' + i, none⟩
    · rw [← he] at e5 ⊢
      exact ⟨t, World.cell?_setCell_same _ _ _ e5⟩
    · exact ⟨s, (World.cell?_setCell_other _ _ _ _ he).trans e5⟩
theorem WL.setLine {C D g : Nat} {w : World} {ls : List Ln} {hs : List (Option Addr × Nat)} (h : WL C D g w ls hs) (k j : Nat) (hj : j < 7) (hj3 : j ≠ 3) (v : Value) : WL C D g (w.setCell ⟨g, k * 7 + j, none⟩ v) ls hs := by
  refine ⟨fun k' l x a c => ?_, fun k' l x a c i hi => ?_, h.lo, h.hi, by have := h.size; simpa using this⟩
  · obtain ⟨h1, h2, h3⟩ := h.lines k' l x a c
    refine ⟨(World.cell?_setCell_other _ _ _ _ (by simp only [ne_eq, Addr.mk.injEq, true_and, and_true]; omega)).trans h1, fun j' hj' => ?_, fun j' => (World.frozen?_setCell _ _ _ _).trans (h3 j')⟩
    obtain ⟨u, hu⟩ := h2 j' hj'
    by_cases he : (⟨g, k * 7 + j, none⟩ : Addr) = ⟨g, k' * 7 + j', none⟩
    · rw [← he] at hu ⊢
      exact ⟨v, World.cell?_setCell_same _ _ _ hu⟩
    · exact ⟨u, (World.cell?_setCell_other _ _ _ _ he).trans hu⟩
  · obtain ⟨b', o', e1, e2, e3, e4, ⟨s, e5⟩, e6⟩ := h.parts k' l x a c i hi
    exact ⟨b', o', e1, e2, e3, e4, ⟨s, (World.cell?_setCell_far _ _ _ _ (by exact fun e => e4 e.symm)).trans e5⟩, (World.frozen?_setCell _ _ _ _).trans e6⟩
theorem OwnSt.row {B D g : Nat} {w : World} {ao : Option Addr} {n cap : Nat} {ss : List ByteArray} (h : OwnSt B w ao n cap ss) (hg : g < B) (hD : w.heap.size ≤ D) : StrRow B D g w ao n := by
  intro i hi
  obtain ⟨h1, h2, h3⟩ := h
  obtain ⟨b, rfl, hb, hlt, hrow⟩ := h3.some (by omega)
  refine ⟨b, 0, rfl, hb, by omega, by omega, ?_, ?_⟩
  · rw [Nat.zero_add, World.ownsRow.cellAt hrow i (by omega), List.getElem?_map, List.getElem?_eq_getElem (by omega)]
    exact ⟨_, rfl⟩
  · rw [Nat.zero_add]; exact World.ownsRow.frozenAt hrow i
theorem OwnL.wl {C g n : Nat} {w : World} {ls : List Ln} (h : OwnL g w n ls) (hC : C ≤ g) : ∃ hs : List (Option Addr × Nat), hs.length = n ∧ WL C w.heap.size g w ls hs := by
  obtain ⟨h1, h2, h3, hs, h4, h5, h6⟩ := h
  refine ⟨hs, h4, ⟨fun k l x a b => ?_, fun k l x a b i hi => ?_, hC, h3, Nat.le_refl _⟩⟩
  · have hk : k < n := by rw [← h1]; exact (List.getElem?_eq_some_iff.1 a).1
    have at' : ∀ (j : Nat) (v : Value), (lineCells l x)[j]? = some v → w.cell? ⟨g, k * 7 + j, none⟩ = some v := fun j v hv => by
      have hj : j < 7 := (List.getElem?_eq_some_iff.1 hv).1
      rw [World.ownsRow.cellAt h5 (k * 7 + j) (by omega)]
      exact linesCells_at ls hs k l x a b j v hv
    refine ⟨at' 3 _ rfl, fun j hj => ?_, fun j => World.ownsRow.frozenAt h5 _⟩
    exact ⟨(lineCells l x)[j]'(by exact hj), at' j _ (List.getElem?_eq_getElem (by exact hj))⟩
  · obtain ⟨b', o', e1, e2, e3⟩ := (h6 k l x a b).row (g := g) (by omega) (Nat.le_refl _) i hi
    exact ⟨b', o', e1, by omega, e3⟩
set_option maxHeartbeats 2000000 in
theorem markStringS_wl (w : World) (C D g : Nat) (ls : List Ln) (hs : List (Option Addr × Nat)) (hw : WL C D g w ls hs) (k0 : Nat) (l : Ln) (x : Option Addr × Nat) (hl : ls[k0]? = some l) (hx : hs[k0]? = some x) (q c : Nat) (hq : q ≤ 100000000000) (hp : l.parts.length ≤ 1048576) :
    Calls Try.prog 44 #[.slice x.1 l.parts.length c, .int .i64 q] w fun e w' => e = .returned (.int .i64 ((q + l.parts.length : Nat) : Int)) ∧ WL C D g w' ls hs ∧ Kept C D w w' := by
  have HL := Lib.hid hl
  have HX := Lib.hid hx
  have HW := Lib.hid hw
  obtain ⟨x, xc⟩ := x
  obtain ⟨m, hm⟩ : ∃ m, m = l.parts.length := ⟨_, rfl⟩
  have HM := Lib.hid hm
  rw [← hm] at hp ⊢
  show Calls Try.prog 44 #[.slice x m c, .int .i64 q] w _
  clear hl hx hw hm
  go_enter Try.func44, Try.ntmps44
  go_wp2_with fail
  go_loopw [1, 5] (fun qv i wr => ∃ k : Nat, k ≤ m ∧ i = .int .i64 k ∧ qv = .int .i64 ((q + k : Nat) : Int) ∧ WL C D g wr ls hs ∧ Kept C D w wr) (fun _ i _ => m - (intOf i).toNat)
  case atStart => exact ⟨0, Nat.zero_le _, rfl, rfl, HW.out, Kept.refl _ _ _⟩
  case round =>
    obtain ⟨k, hk, rfl, rfl, hwl, hke⟩ := hrel
    by_cases hlt : k < m
    · have hltp : k < l.parts.length := by rw [← HM.out]; exact hlt
      obtain ⟨b, o, hxe, hCb, hDb, hbg, _⟩ := hwl.parts k0 l (x, xc) HL.out HX.out k hltp
      obtain rfl : x = some ⟨b, o, none⟩ := hxe
      go_wp2_with fail
      refine (markText_any _ _ (by omega)).mono ?_
      rintro e w2 ⟨rfl, hb2⟩
      have hwl2 := hwl.below hb2 hwl.size
      have hke2 := hke.trans (Kept.of_below (C := C) (D := D) hb2 (Nat.le_refl _))
      obtain ⟨b', o', hxe, _, _, _, ⟨s, hc⟩, hf⟩ := hwl2.parts k0 l (some ⟨b, o, none⟩, xc) HL.out HX.out k hltp
      simp only [Option.some.injEq, Addr.mk.injEq] at hxe
      obtain ⟨rfl, rfl, _⟩ := hxe
      have hwl3 := hwl2.setStr b (o + k) (markT (q + k)) hbg
      have hke3 := hke2.set ⟨b, o + k, none⟩ (.string (markT (q + k))) hCb hDb
      clear hwl2 hke2
      go_wp2_with fail
      go_roundw
      case rel => exact ⟨k + 1, by omega, by go_num, by simp; omega, hwl3, hke3⟩
      case measure => simp [intOf] <;> omega
    · obtain rfl : k = m := by omega
      go_wp2_with fail
      go_ret
      exact ⟨rfl, hwl, hke⟩
end Go.Proofs.Ytglehpmaniabbaa
