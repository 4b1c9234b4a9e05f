/-
  The language: marks in the laws: texts of numbers, slices of texts, programs.
-/
import Derived.Test.YtdlddkgmjpmenaaGreatDoorHLs
import Derived.Laws.BytesArg
import Derived.Deep.RegionHeld3
namespace Go.Proofs.YtdlddkgmjpmenaaGreatDoor
open Go.RowKit
set_option linter.unusedVariables false
set_option linter.unusedSimpArgs false

theorem str_conv (w : World) (b off len cap : Nat) (xs : List Int) (hlen : xs.length = len) (hcell : ∀ i, i < len → w.cell? ⟨b, off + i, none⟩ = some (.int .u8 (xs.getD i 0))) :
    (convert 28 9 (.slice (some ⟨b, off, none⟩) len cap)).run Tryz.prog w = .ok (.string (strOfNums xs)) w :=
  run_convert_bytes_arg w 28 5 Tryz.underlying28 Tryz.underlying5 b off len cap xs hlen hcell 9 Tryz.underlying9
theorem str_conv1 (w : World) (x : Int) : (convert 28 9 (.slice (some ⟨w.heap.size, 0, none⟩) 1 1)).run Tryz.prog (w.alloc (.cells #[.int .u8 x] 5)) = .ok (.string (strOfNums [x])) (w.alloc (.cells #[.int .u8 x] 5)) := by
  refine str_conv _ _ _ _ _ [x] rfl fun i hi => ?_
  obtain rfl : i = 0 := by omega
  rw [cell_of_row _ w.heap.size 0 #[.int .u8 x] 5 (0, 0) (heap_alloc_new w _)]; rfl
theorem ret_str {a b : ByteArray} (h : a = b) : Ending.returned (.string a) = .returned (.string b) := by rw [h]
/-- The digits of a number ahead of a text. -/
def digitsOf : Nat → Nat → ByteArray → ByteArray
  | 0, _, out => out
  | f + 1, k, out => if k = 0 then out else digitsOf f (k / 10) (strOfNums [48 + (k : Int) % 10] ++ out)
theorem digitsOf_zero (f : Nat) (out : ByteArray) : digitsOf f 0 out = out := by cases f <;> simp [digitsOf]
def markT (k : Nat) : ByteArray := if k = 0 then ⟨#[109, 48]⟩ else ⟨#[109]⟩ ++ digitsOf k k ⟨#[]⟩
set_option maxRecDepth 20000 in
set_option maxHeartbeats 2000000 in
theorem markText_any (w : World) (k : Nat) (hk : k ≤ 1000000000000) : Calls Tryz.prog 31 #[.int .i64 k] w fun e w' => e = .returned (.string (markT k)) ∧ Below w.heap.size w w' := by
  by_cases h0 : k = 0
  · subst h0
    have HF : Hid (markT 0 = ⟨#[109, 48]⟩) := rfl
    go_enter Tryz.func31, Tryz.ntmps31
    go_wp2_with fail
    go_ret
    exact ⟨ret_str HF.out.symm, Below.refl _ _⟩
  have hp : ¬ (k : Int) ≤ 0 := by omega
  have HF : Hid (markT k = ⟨#[109]⟩ ++ digitsOf k k ⟨#[]⟩) := by show _ = _; unfold markT; rw [if_neg h0]
  go_enter Tryz.func31, Tryz.ntmps31
  go_wp2_with fail
  go_loopw [0, 3] (fun q out wr => ∃ (f j : Nat) (s : ByteArray), q = .int .i64 j ∧ out = .string s ∧ j ≤ f ∧ j ≤ k ∧ s.size + j ≤ k ∧ Hid (digitsOf f j s = digitsOf k k ⟨#[]⟩) ∧ Below w.heap.size w wr) (fun q _ _ => (intOf q).toNat)
  case atStart => exact ⟨k, k, _, rfl, rfl, Nat.le_refl _, Nat.le_refl _, Nat.le_of_eq (Nat.zero_add k), rfl, Below.refl _ _⟩
  case round =>
    obtain ⟨f, j, s, rfl, rfl, hjf, hjk, hss, hd, hbel⟩ := hrel
    by_cases hj : j = 0
    · have HD := hd.out
      have hjn : ¬ (j : Int) > 0 := by omega
      rw [hj, digitsOf_zero] at HD
      have HF2 : Hid (markT k = ⟨#[109]⟩ ++ s) := by show _ = _; rw [HF.out, HD]
      have hs9 : s.size ≤ 1000000000000 := by omega
      clear HD hd hj
      go_wp2_with fail
      go_ret
      exact ⟨ret_str HF2.out.symm, hbel⟩
    · obtain ⟨f, rfl⟩ : ∃ f', f = f' + 1 := ⟨f - 1, by omega⟩
      have hjp : (j : Int) > 0 := by omega
      have HD := hd.out
      rw [digitsOf, if_neg hj] at HD
      have HD2 := Lib.hid HD
      have hcv := str_conv1 wr (48 + (j : Int) % 10)
      have hbw : Below w.heap.size w (wr.alloc (.cells #[.int .u8 (48 + (j : Int) % 10)] 5)) := hbel.alloc hbel.size _
      have hz1 : (strOfNums [48 + (j : Int) % 10]).size = 1 := rfl
      obtain ⟨s1, hs1⟩ : ∃ s1, s1 = strOfNums [48 + (j : Int) % 10] := ⟨_, rfl⟩
      rw [← hs1] at hcv HD2 hz1
      have hm : Int.tmod (j : Int) 10 = ((j % 10 : Nat) : Int) := by rfl
      have hq : Int.tdiv (j : Int) 10 = ((j / 10 : Nat) : Int) := by rfl
      have hj10 : j % 10 < 10 := Nat.mod_lt _ (by decide)
      have hjd : j / 10 < j := Nat.div_lt_self (by omega) (by decide)
      clear HD hd hs1
      go_wp2_with fail
      go_roundw
      case rel => exact ⟨f, j / 10, s1 ++ s, by rw [Int.natCast_ediv]; rfl, rfl, by omega, by omega, by rw [ByteArray.size_append, hz1]; omega, HD2.out, hbw⟩
      case measure => simp [intOf] <;> omega
def dummy := 0
end Go.Proofs.YtdlddkgmjpmenaaGreatDoor
/-
  The language: marks in the laws: a program that a law has copied is written over.
-/
namespace Go.Proofs.YtdlddkgmjpmenaaGreatDoor
open Go.RowKit
set_option linter.unusedVariables false
set_option linter.unusedSimpArgs false

/-- Only blocks from C to D, and new ones, may have turned. -/
structure Kept (C D : Nat) (w w' : World) : Prop where
  os : w'.os = w.os
  tape : w'.tape = w.tape
  output : w'.output = w.output
  size : w.heap.size ≤ w'.heap.size
  block : ∀ k, k < w.heap.size → (k < C ∨ D ≤ k) → w'.heap[k]? = w.heap[k]?
theorem Kept.refl (C D : Nat) (w : World) : Kept C D w w := ⟨rfl, rfl, rfl, Nat.le_refl _, fun _ _ _ => rfl⟩
theorem Kept.trans {C D : Nat} {a b c : World} (h : Kept C D a b) (k : Kept C D b c) : Kept C D a c :=
  ⟨k.os.trans h.os, k.tape.trans h.tape, k.output.trans h.output, Nat.le_trans h.size k.size, fun i hi hp => (k.block i (Nat.lt_of_lt_of_le hi h.size) hp).trans (h.block i hi hp)⟩
theorem Kept.of_below {C D E : Nat} {w w' : World} (h : Below E w w') (hE : w.heap.size ≤ E) : Kept C D w w' := ⟨h.os, h.tape, h.output, h.size, fun k hk _ => h.block k (Nat.lt_of_lt_of_le hk hE)⟩
theorem Kept.set {C D : Nat} {w w' : World} (h : Kept C D w w') (p : Addr) (v : Value) (h1 : C ≤ p.block) (h2 : p.block < D) : Kept C D w (w'.setCell p v) :=
  ⟨h.os, h.tape, h.output, by have := h.size; simpa using this, fun k hk hp => (heap_setCell_other w' p k v (by omega)).trans (h.block k hk hp)⟩
theorem Kept.below {C D : Nat} {w w' : World} (h : Kept C D w w') (hC : C ≤ w.heap.size) : Below C w w' := ⟨h.os, h.tape, h.output, h.size, fun k hk => h.block k (by omega) (.inl hk)⟩
/-- What lies elsewhere is as it was. -/
theorem OwnC.same {e : TypeId} {size B : Nat} {w w' : World} {ao : Option Addr} {n cap : Nat} {cs : List Value} (h : OwnC e size B w ao n cap cs) (hk : ∀ b, rowOf ao cap = .some b → w'.heap[b]? = w.heap[b]?) : OwnC e size B w' ao n cap cs := by
  rcases h with h | ⟨g, rfl, h⟩
  · exact .inl h
  · by_cases hc : cap = 0
    · left
      subst hc
      rcases h.2 with ⟨hv, h0⟩ | ⟨g', cap', cur, hv, _, _, hn, _⟩
      · simp at hv
      · simp only [Value.slice.injEq] at hv
        obtain ⟨_, _, rfl⟩ := hv
        obtain rfl : n = 0 := by omega
        have := h.1
        simp at this
        exact ⟨this, rfl, rfl⟩
    · refine .inr ⟨g, rfl, h.1, ?_⟩
      rcases h.2 with h2 | ⟨g', cap', cur, hv, hb, hg, rest⟩
      · exact .inl h2
      · refine .inr ⟨g', cap', cur, hv, hb, ?_, rest⟩
        simp only [Value.slice.injEq, Option.some.injEq, Addr.mk.injEq] at hv
        obtain ⟨⟨rfl, _⟩, _⟩ := hv
        rw [hk g (by simp [rowOf, hc])]
        exact hg
theorem Kept.own {C D : Nat} {w w' : World} (hk : Kept C D w w') {e : TypeId} {size B : Nat} {ao : Option Addr} {n cap : Nat} {cs : List Value} (h : OwnC e size B w ao n cap cs) (hr : ∀ b, rowOf ao cap = some b → b < C ∨ D ≤ b) : OwnC e size B w' ao n cap cs :=
  OwnC.same h fun b hb => hk.block b (OwnC.rowLt h b hb).2 (hr b hb)
theorem Kept.ownI {C D : Nat} {w w' : World} (hk : Kept C D w w') {B : Nat} {ao : Option Addr} {n cap : Nat} {xs : List Int} (h : OwnI B w ao n cap xs) (hr : ∀ b, rowOf ao cap = some b → b < C ∨ D ≤ b) : OwnI B w' ao n cap xs := ⟨h.1, h.2.1, hk.own h.2.2 hr⟩
theorem Kept.ownSt {C D : Nat} {w w' : World} (hk : Kept C D w w') {B : Nat} {ao : Option Addr} {n cap : Nat} {ss : List ByteArray} (h : OwnSt B w ao n cap ss) (hr : ∀ b, rowOf ao cap = some b → b < C ∨ D ≤ b) : OwnSt B w' ao n cap ss := ⟨h.1, h.2.1, hk.own h.2.2 hr⟩
/-- Texts between C and D, not in block g, that may be written. -/
def StrRow (C D g : Nat) (w : World) (h : Option Addr) (m : Nat) : Prop := ∀ i, i < m → ∃ b o, h = some ⟨b, o, none⟩ ∧ C ≤ b ∧ b < D ∧ b ≠ g ∧ (∃ s, w.cell? ⟨b, o + i, none⟩ = some (.string s)) ∧ w.frozen? ⟨b, o + i, none⟩ = false
def LineRow (g : Nat) (w : World) (ls : List Ln) (hs : List (Option Addr × Nat)) : Prop := ∀ (k : Nat) (l : Ln) (h : Option Addr × Nat), ls[k]? = some l → hs[k]? = some h →
  w.cell? ⟨g, k * 7 + 3, none⟩ = some (.slice h.1 l.parts.length h.2) ∧ (∀ j, j < 7 → ∃ v, w.cell? ⟨g, k * 7 + j, none⟩ = some v) ∧ ∀ j, w.frozen? ⟨g, k * 7 + j, none⟩ = false
structure WL (C D g : Nat) (w : World) (ls : List Ln) (hs : List (Option Addr × Nat)) : Prop where
  lines : LineRow g w ls hs
  parts : ∀ (k : Nat) (l : Ln) (h : Option Addr × Nat), ls[k]? = some l → hs[k]? = some h → StrRow C D g w h.1 l.parts.length
  lo : C ≤ g
  hi : g < D
  size : D ≤ w.heap.size
theorem WL.below {C D g E : Nat} {w w' : World} {ls : List Ln} {hs : List (Option Addr × Nat)} (h : WL C D g w ls hs) (hb : Below E w w') (hE : D ≤ E) : WL C D g w' ls hs := by
  refine ⟨fun k l x a b => ?_, fun k l x a b i hi => ?_, h.lo, h.hi, Nat.le_trans h.size hb.size⟩
  · obtain ⟨h1, h2, h3⟩ := h.lines k l x a b
    have hg : ∀ o, (⟨g, o, none⟩ : Addr).block < E := fun o => Nat.lt_of_lt_of_le h.hi hE
    exact ⟨(hb.cell (hg _)).trans h1, fun j hj => by obtain ⟨v, hv⟩ := h2 j hj; exact ⟨v, (hb.cell (hg _)).trans hv⟩, fun j => (hb.frozen (hg _)).trans (h3 j)⟩
  · obtain ⟨b, o, e1, e2, e3, e4, ⟨s, e5⟩, e6⟩ := h.parts k l x a b i hi
    have hg : (⟨b, o + i, none⟩ : Addr).block < E := Nat.lt_of_lt_of_le e3 hE
    exact ⟨b, o, e1, e2, e3, e4, ⟨s, (hb.cell hg).trans e5⟩, (hb.frozen hg).trans e6⟩
theorem WL.setStr {C D g : Nat} {w : World} {ls : List Ln} {hs : List (Option Addr × Nat)} (h : WL C D g w ls hs) (b o : Nat) (t : ByteArray) (hb : b ≠ g) : WL C D g (w.setCell ⟨b, o, none⟩ (.string t)) ls hs := by
  refine ⟨fun k l x a c => ?_, fun k l x a c i hi => ?_, h.lo, h.hi, by have := h.size; simpa using this⟩
  · obtain ⟨h1, h2, h3⟩ := h.lines k l x a c
    exact ⟨(World.cell?_setCell_far _ _ _ _ hb).trans h1, fun j hj => by obtain ⟨v, hv⟩ := h2 j hj; exact ⟨v, (World.cell?_setCell_far _ _ _ _ hb).trans hv⟩, fun j => (World.frozen?_setCell _ _ _ _).trans (h3 j)⟩
  · obtain ⟨b', o', e1, e2, e3, e4, ⟨s, e5⟩, e6⟩ := h.parts k l x a c i hi
    refine ⟨b', o', e1, e2, e3, e4, ?_, (World.frozen?_setCell _ _ _ _).trans e6⟩
    by_cases he : (⟨b, o, none⟩ : Addr) = ⟨b', o' + i, none⟩
    · rw [← he] at e5 ⊢
      exact ⟨t, World.cell?_setCell_same _ _ _ e5⟩
    · exact ⟨s, (World.cell?_setCell_other _ _ _ _ he).trans e5⟩
theorem WL.setLine {C D g : Nat} {w : World} {ls : List Ln} {hs : List (Option Addr × Nat)} (h : WL C D g w ls hs) (k j : Nat) (hj : j < 7) (hj3 : j ≠ 3) (v : Value) : WL C D g (w.setCell ⟨g, k * 7 + j, none⟩ v) ls hs := by
  refine ⟨fun k' l x a c => ?_, fun k' l x a c i hi => ?_, h.lo, h.hi, by have := h.size; simpa using this⟩
  · obtain ⟨h1, h2, h3⟩ := h.lines k' l x a c
    refine ⟨(World.cell?_setCell_other _ _ _ _ (by simp only [ne_eq, Addr.mk.injEq, true_and, and_true]; omega)).trans h1, fun j' hj' => ?_, fun j' => (World.frozen?_setCell _ _ _ _).trans (h3 j')⟩
    obtain ⟨u, hu⟩ := h2 j' hj'
    by_cases he : (⟨g, k * 7 + j, none⟩ : Addr) = ⟨g, k' * 7 + j', none⟩
    · rw [← he] at hu ⊢
      exact ⟨v, World.cell?_setCell_same _ _ _ hu⟩
    · exact ⟨u, (World.cell?_setCell_other _ _ _ _ he).trans hu⟩
  · obtain ⟨b', o', e1, e2, e3, e4, ⟨s, e5⟩, e6⟩ := h.parts k' l x a c i hi
    exact ⟨b', o', e1, e2, e3, e4, ⟨s, (World.cell?_setCell_far _ _ _ _ (by exact fun e => e4 e.symm)).trans e5⟩, (World.frozen?_setCell _ _ _ _).trans e6⟩
theorem OwnSt.row {B D g : Nat} {w : World} {ao : Option Addr} {n cap : Nat} {ss : List ByteArray} (h : OwnSt B w ao n cap ss) (hg : g < B) (hD : w.heap.size ≤ D) : StrRow B D g w ao n := by
  intro i hi
  obtain ⟨h1, h2, h3⟩ := h
  obtain ⟨b, rfl, hb, hlt, hrow⟩ := h3.some (by omega)
  refine ⟨b, 0, rfl, hb, by omega, by omega, ?_, ?_⟩
  · rw [Nat.zero_add, World.ownsRow.cellAt hrow i (by omega), List.getElem?_map, List.getElem?_eq_getElem (by omega)]
    exact ⟨_, rfl⟩
  · rw [Nat.zero_add]; exact World.ownsRow.frozenAt hrow i
theorem OwnL.wl {C g n : Nat} {w : World} {ls : List Ln} (h : OwnL g w n ls) (hC : C ≤ g) : ∃ hs : List (Option Addr × Nat), hs.length = n ∧ WL C w.heap.size g w ls hs := by
  obtain ⟨h1, h2, h3, hs, h4, h5, h6⟩ := h
  refine ⟨hs, h4, ⟨fun k l x a b => ?_, fun k l x a b i hi => ?_, hC, h3, Nat.le_refl _⟩⟩
  · have hk : k < n := by rw [← h1]; exact (List.getElem?_eq_some_iff.1 a).1
    have at' : ∀ (j : Nat) (v : Value), (lineCells l x)[j]? = some v → w.cell? ⟨g, k * 7 + j, none⟩ = some v := fun j v hv => by
      have hj : j < 7 := (List.getElem?_eq_some_iff.1 hv).1
      rw [World.ownsRow.cellAt h5 (k * 7 + j) (by omega)]
      exact linesCells_at ls hs k l x a b j v hv
    refine ⟨at' 3 _ rfl, fun j hj => ?_, fun j => World.ownsRow.frozenAt h5 _⟩
    exact ⟨(lineCells l x)[j]'(by exact hj), at' j _ (List.getElem?_eq_getElem (by exact hj))⟩
  · obtain ⟨b', o', e1, e2, e3⟩ := (h6 k l x a b).row (g := g) (by omega) (Nat.le_refl _) i hi
    exact ⟨b', o', e1, by omega, e3⟩
set_option maxHeartbeats 2000000 in
theorem markStringS_wl (w : World) (C D g : Nat) (ls : List Ln) (hs : List (Option Addr × Nat)) (hw : WL C D g w ls hs) (k0 : Nat) (l : Ln) (x : Option Addr × Nat) (hl : ls[k0]? = some l) (hx : hs[k0]? = some x) (q c : Nat) (hq : q ≤ 100000000000) (hp : l.parts.length ≤ 1048576) :
    Calls Tryz.prog 32 #[.slice x.1 l.parts.length c, .int .i64 q] w fun e w' => e = .returned (.int .i64 ((q + l.parts.length : Nat) : Int)) ∧ WL C D g w' ls hs ∧ Kept C D w w' := by
  have HL := Lib.hid hl
  have HX := Lib.hid hx
  have HW := Lib.hid hw
  obtain ⟨x, xc⟩ := x
  obtain ⟨m, hm⟩ : ∃ m, m = l.parts.length := ⟨_, rfl⟩
  have HM := Lib.hid hm
  rw [← hm] at hp ⊢
  show Calls Tryz.prog 32 #[.slice x m c, .int .i64 q] w _
  clear hl hx hw hm
  go_enter Tryz.func32, Tryz.ntmps32
  go_wp2_with fail
  go_loopw [1, 5] (fun qv i wr => ∃ k : Nat, k ≤ m ∧ i = .int .i64 k ∧ qv = .int .i64 ((q + k : Nat) : Int) ∧ WL C D g wr ls hs ∧ Kept C D w wr) (fun _ i _ => m - (intOf i).toNat)
  case atStart => exact ⟨0, Nat.zero_le _, rfl, rfl, HW.out, Kept.refl _ _ _⟩
  case round =>
    obtain ⟨k, hk, rfl, rfl, hwl, hke⟩ := hrel
    by_cases hlt : k < m
    · have hltp : k < l.parts.length := by rw [← HM.out]; exact hlt
      obtain ⟨b, o, hxe, hCb, hDb, hbg, _⟩ := hwl.parts k0 l (x, xc) HL.out HX.out k hltp
      obtain rfl : x = some ⟨b, o, none⟩ := hxe
      go_wp2_with fail
      refine (markText_any _ _ (by omega)).mono ?_
      rintro e w2 ⟨rfl, hb2⟩
      have hwl2 := hwl.below hb2 hwl.size
      have hke2 := hke.trans (Kept.of_below (C := C) (D := D) hb2 (Nat.le_refl _))
      obtain ⟨b', o', hxe, _, _, _, ⟨s, hc⟩, hf⟩ := hwl2.parts k0 l (some ⟨b, o, none⟩, xc) HL.out HX.out k hltp
      simp only [Option.some.injEq, Addr.mk.injEq] at hxe
      obtain ⟨rfl, rfl, _⟩ := hxe
      have hwl3 := hwl2.setStr b (o + k) (markT (q + k)) hbg
      have hke3 := hke2.set ⟨b, o + k, none⟩ (.string (markT (q + k))) hCb hDb
      clear hwl2 hke2
      go_wp2_with fail
      go_roundw
      case rel => exact ⟨k + 1, by omega, by go_num, by simp; omega, hwl3, hke3⟩
      case measure => simp [intOf] <;> omega
    · obtain rfl : k = m := by omega
      go_wp2_with fail
      go_ret
      exact ⟨rfl, hwl, hke⟩
end Go.Proofs.YtdlddkgmjpmenaaGreatDoor
/-
  The language: marks in the laws: all lines of a program.
-/
namespace Go.Proofs.YtdlddkgmjpmenaaGreatDoor
open Go.RowKit
set_option linter.unusedVariables false
set_option linter.unusedSimpArgs false

theorem foldl_ge (l : List Nat) : ∀ a : Nat, a ≤ l.foldl (· + ·) a := by
  induction l with
  | nil => intro a; exact Nat.le_refl _
  | cons x r ih => intro a; exact Nat.le_trans (Nat.le_add_right a x) (ih (a + x))
theorem partsSum_le (ls : List Ln) (k : Nat) : partsSum (ls.take k) ≤ partsSum ls := by
  have e : partsSum ls = ((ls.drop k).map fun l => l.parts.length).foldl (· + ·) (partsSum (ls.take k)) := by
    unfold partsSum
    rw [← List.foldl_append, ← List.map_append, List.take_append_drop]
  rw [e]
  exact foldl_ge _ _
set_option maxRecDepth 100000 in
set_option maxHeartbeats 8000000 in
theorem markLineS_wl (w : World) (C D g : Nat) (ls : List Ln) (hs : List (Option Addr × Nat)) (hw : WL C D g w ls hs) (hsl : hs.length = ls.length) (c : Nat) (hok : okS ls) (hsum : ls.length + partsSum ls ≤ 1048576) :
    Calls Tryz.prog 8 #[.slice (some ⟨g, 0, none⟩) ls.length c, .int .i64 1] w fun e w' => ∃ Q : Nat, e = .returned (.int .i64 Q) ∧ Q ≤ 100000000 ∧ Kept C D w w' := by
  have HW := Lib.hid hw
  have HOK := Lib.hid hok
  have HSL := Lib.hid hsl
  obtain ⟨n, hn⟩ : ∃ n, n = ls.length := ⟨_, rfl⟩
  have HN := Lib.hid hn
  have hn20 : n ≤ 1048576 := by omega
  have HSUM := Lib.hid hsum
  rw [← hn]
  clear hw hok hsl hn hsum
  go_enter Tryz.func8, Tryz.ntmps8
  go_wp2_with fail
  go_loopw [1, 5] (fun qv i wr => ∃ (k Q : Nat), k ≤ n ∧ i = .int .i64 k ∧ qv = .int .i64 Q ∧ Q ≤ 1 + 6 * k + partsSum (ls.take k) ∧ WL C D g wr ls hs ∧ Kept C D w wr) (fun _ i _ => n - (intOf i).toNat)
  case atStart => exact ⟨0, 1, Nat.zero_le _, rfl, rfl, by simp [partsSum], HW.out, Kept.refl _ _ _⟩
  case round =>
    obtain ⟨k, Q, hk, rfl, rfl, hQ, hwl, hke⟩ := hrel
    by_cases hlt : k < n
    · obtain ⟨l, hl⟩ := getL_at (i := k) HN.out.symm hlt
      obtain ⟨x, hx⟩ := getL_at (i := k) (HSL.out.trans HN.out.symm) hlt
      have hpl := (okS_at HOK.out hl).2.2
      have HST := Lib.hid (partsSum_step hl)
      have HLL := Lib.hid hl
      have HXX := Lib.hid hx
      have hPl := partsSum_le ls k
      obtain ⟨P, hP⟩ : ∃ P, P = partsSum (ls.take k) := ⟨_, rfl⟩
      rw [← hP] at hQ HST hPl
      have hkb : k ≤ 1048576 := by omega
      have hQb : Q ≤ 10000000 := by have := HSUM.out; omega
      have HQ := Lib.hid hQ
      clear hP hl hx hQ hPl
      obtain ⟨x, xc⟩ := x
      obtain ⟨hd, hcv, hfr⟩ := hwl.lines k l (x, xc) HLL.out HXX.out
      obtain ⟨v0, a0⟩ := hcv 0 (by decide)
      have f0 := hfr 0
      rw [Nat.add_zero] at a0 f0
      obtain ⟨W1, hW1⟩ : ∃ W1, W1 = wr.setCell ⟨g, k * 7, none⟩ (.int .i64 Q) := ⟨_, rfl⟩
      have hwl1 : WL C D g W1 ls hs := by rw [hW1]; exact hwl.setLine k 0 (by decide) (by decide) _
      have hke1 : Kept C D w W1 := by rw [hW1]; exact hke.set _ _ hwl.lo hwl.hi
      have HW1 := Lib.hid hW1
      clear hW1 hcv hfr hd
      go_wp2_with (rw [← HW1.out])
      have e1 : (Q : Int) + 1 = ((Q + 1 : Nat) : Int) := by omega
      rw [e1]
      clear a0 f0 e1
      refine (markText_any _ _ (by omega)).mono ?_
      rintro e w2 ⟨rfl, hb2⟩
      have hwl2 := hwl1.below hb2 hwl1.size
      have hke2 := hke1.trans (Kept.of_below (C := C) (D := D) hb2 (Nat.le_refl _))
      obtain ⟨hd, hcv, hfr⟩ := hwl2.lines k l (x, xc) HLL.out HXX.out
      obtain ⟨v1, a1⟩ := hcv 1 (by decide)
      have f1 := hfr 1
      obtain ⟨W3, hW3⟩ : ∃ W3, W3 = w2.setCell ⟨g, k * 7 + 1, none⟩ (.string (markT (Q + 1))) := ⟨_, rfl⟩
      have hwl3 : WL C D g W3 ls hs := by rw [hW3]; exact hwl2.setLine k 1 (by decide) (by decide) _
      have hke3 : Kept C D w W3 := by rw [hW3]; exact hke2.set _ _ hwl2.lo hwl2.hi
      have HW3 := Lib.hid hW3
      clear hW3 hcv hfr hd
      go_wp2_with (rw [← HW3.out])
      have e1 : (Q : Int) + 1 + 1 = ((Q + 2 : Nat) : Int) := by omega
      rw [e1]
      clear a1 f1 e1
      refine (markText_any _ _ (by omega)).mono ?_
      rintro e w4 ⟨rfl, hb4⟩
      have hwl4 := hwl3.below hb4 hwl3.size
      have hke4 := hke3.trans (Kept.of_below (C := C) (D := D) hb4 (Nat.le_refl _))
      obtain ⟨hd, hcv, hfr⟩ := hwl4.lines k l (x, xc) HLL.out HXX.out
      obtain ⟨v2, a2⟩ := hcv 2 (by decide)
      have f2 := hfr 2
      obtain ⟨W5, hW5⟩ : ∃ W5, W5 = w4.setCell ⟨g, k * 7 + 2, none⟩ (.string (markT (Q + 2))) := ⟨_, rfl⟩
      have hwl5 : WL C D g W5 ls hs := by rw [hW5]; exact hwl4.setLine k 2 (by decide) (by decide) _
      have hke5 : Kept C D w W5 := by rw [hW5]; exact hke4.set _ _ hwl4.lo hwl4.hi
      have HW5 := Lib.hid hW5
      clear hW5 hcv hfr hd
      obtain ⟨hd, _, _⟩ := hwl5.lines k l (x, xc) HLL.out HXX.out
      go_wp2_with (rw [← HW5.out])
      have e1 : (Q : Int) + 2 + 1 = ((Q + 3 : Nat) : Int) := by omega
      rw [e1]
      clear hd e1
      refine (markStringS_wl W5 C D g ls hs hwl5 k l (x, xc) HLL.out HXX.out (Q + 3) _ (by omega) hpl).mono ?_
      rintro e w6 ⟨rfl, hwl6, hk6⟩
      have hke6 := hke5.trans hk6
      obtain ⟨R, hR⟩ : ∃ R, R = Q + 3 + l.parts.length := ⟨_, rfl⟩
      rw [← hR]
      have hRb : R ≤ 20000000 := by omega
      have HR := Lib.hid hR
      clear hR
      obtain ⟨hd, hcv, hfr⟩ := hwl6.lines k l (x, xc) HLL.out HXX.out
      obtain ⟨v4, a4⟩ := hcv 4 (by decide)
      have f4 := hfr 4
      obtain ⟨W7, hW7⟩ : ∃ W7, W7 = w6.setCell ⟨g, k * 7 + 4, none⟩ (.int .i64 R) := ⟨_, rfl⟩
      have hwl7 : WL C D g W7 ls hs := by rw [hW7]; exact hwl6.setLine k 4 (by decide) (by decide) _
      have hke7 : Kept C D w W7 := by rw [hW7]; exact hke6.set _ _ hwl6.lo hwl6.hi
      have HW7 := Lib.hid hW7
      clear hW7 hcv hfr hd
      obtain ⟨hd, hcv, hfr⟩ := hwl7.lines k l (x, xc) HLL.out HXX.out
      obtain ⟨v5, a5⟩ := hcv 5 (by decide)
      have f5 := hfr 5
      obtain ⟨W8, hW8⟩ : ∃ W8, W8 = W7.setCell ⟨g, k * 7 + 5, none⟩ (.int .i64 (R + 1)) := ⟨_, rfl⟩
      have hwl8 : WL C D g W8 ls hs := by rw [hW8]; exact hwl7.setLine k 5 (by decide) (by decide) _
      have hke8 : Kept C D w W8 := by rw [hW8]; exact hke7.set _ _ hwl7.lo hwl7.hi
      have HW8 := Lib.hid hW8
      clear hW8 hcv hfr hd
      obtain ⟨hd, hcv, hfr⟩ := hwl8.lines k l (x, xc) HLL.out HXX.out
      obtain ⟨v6, a6⟩ := hcv 6 (by decide)
      have f6 := hfr 6
      obtain ⟨W9, hW9⟩ : ∃ W9, W9 = W8.setCell ⟨g, k * 7 + 6, none⟩ (.int .i64 ((R : Int) + 1 + 1)) := ⟨_, rfl⟩
      have hW9' : W8.setCell ⟨g, k * 7 + 6, none⟩ (.int .i64 ((R : Int) + 2)) = W9 := by rw [hW9, show (R : Int) + 1 + 1 = R + 2 from by omega]
      have hwl9 : WL C D g W9 ls hs := by rw [hW9]; exact hwl8.setLine k 6 (by decide) (by decide) _
      have hke9 : Kept C D w W9 := by rw [hW9]; exact hke8.set _ _ hwl8.lo hwl8.hi
      have HW9 := Lib.hid hW9
      have HW9' := Lib.hid hW9'
      clear hW9 hW9' hcv hfr hd
      go_wp2_with (first | rw [← HW7.out] | rw [← HW8.out] | rw [← HW9.out] | rw [HW9'.out])
      go_roundw
      case rel => exact ⟨k + 1, R + 3, by omega, by go_num, by go_num, by rw [HST.out]; have := HQ.out; have := HR.out; omega, hwl9, hke9⟩
      case measure => simp [intOf] <;> omega
    · obtain rfl : k = n := by omega
      rw [List.take_of_length_le (by rw [← HN.out]; exact Nat.le_refl _)] at hQ
      have HQ := Lib.hid hQ
      clear hQ
      go_wp2_with fail
      go_ret
      exact ⟨Q, rfl, by have := HQ.out; have := HSUM.out; have := HN.out; omega, hke⟩
end Go.Proofs.YtdlddkgmjpmenaaGreatDoor
/-
  The language: marks in the laws: texts that a call has handed back.
-/
namespace Go.Proofs.YtdlddkgmjpmenaaGreatDoor
open Go.RowKit
set_option linter.unusedVariables false
set_option linter.unusedSimpArgs false

def marksT (k : Nat) : Nat → List ByteArray
  | 0 => []
  | n + 1 => markT k :: marksT (k + 1) n
theorem marksT_length : ∀ (n k : Nat), (marksT k n).length = n
  | 0, _ => rfl
  | n + 1, k => by rw [marksT, List.length_cons, marksT_length n]
theorem marksT_get : ∀ (n k i : Nat), i < n → (marksT k n)[i]? = some (markT (k + i))
  | 0, _, _, h => by omega
  | n + 1, k, 0, _ => by simp [marksT]
  | n + 1, k, i + 1, h => by
    rw [marksT, List.getElem?_cons_succ, marksT_get n (k + 1) i (by omega)]
    congr 2; omega
set_option maxHeartbeats 2000000 in
theorem markStringS_any (w : World) (B : Nat) (ao : Option Addr) (n cap : Nat) (q : Nat) (ss : List ByteArray) (ho : OwnSt B w ao n cap ss) (hq : q ≤ 1000000000) (hn20 : n ≤ 1048576) :
    Calls Tryz.prog 32 #[.slice ao n cap, .int .i64 q] w fun e w' => e = .returned (.int .i64 ((q + n : Nat) : Int)) ∧ OwnSt B w' ao n cap (marksT q n) ∧ Kept B w.heap.size w w' := by
  have hn := ho.le
  rcases Nat.eq_zero_or_pos n with rfl | hp
  · have hx : ss = [] := List.eq_nil_of_length_eq_zero ho.1
    subst hx
    go_enter Tryz.func32, Tryz.ntmps32
    go_wp2
    refine wp_loop_rounds 1 ?_
    rw [rounds_succ]
    go_wp2
    go_ret
    exact ⟨rfl, ho, Kept.refl _ _ _⟩
  obtain ⟨g, rfl, hBg, hgl, hrow⟩ := ho.2.2.some hp
  have hlen := Lib.hid ho.1
  go_enter Tryz.func32, Tryz.ntmps32
  go_wp2
  go_loopw [1, 5] (fun qv i wr => ∃ (k : Nat) (cs : List Value), k ≤ n ∧ i = .int .i64 k ∧ qv = .int .i64 ((q + k : Nat) : Int) ∧ cs.length = n ∧ wr.ownsRow B 9 1 (.slice (some ⟨g, 0, none⟩) n cap) n ((marksT q k).map Value.string ++ cs.drop k) ∧ Kept B w.heap.size w wr) (fun _ i _ => n - (intOf i).toNat)
  case atStart => exact ⟨0, ss.map Value.string, Nat.zero_le _, rfl, rfl, by simp [hlen.out], by simpa [marksT] using hrow, Kept.refl _ _ _⟩
  case round =>
    obtain ⟨k, cs, hk, rfl, rfl, hcl, hr, hke⟩ := hrel
    by_cases hlt : k < n
    · have HR := Lib.hid hr
      have HCL := Lib.hid hcl
      have hgw : g < wr.heap.size := Nat.lt_of_lt_of_le hgl hke.size
      clear hr hcl
      go_wp2_with fail
      refine (markText_any _ _ (by omega)).mono ?_
      rintro e w2 ⟨rfl, hb2⟩
      have hr2 := ownsRow_below HR.out hb2 (Nat.le_refl _)
      obtain ⟨u, hu⟩ : ∃ u, w2.cell? ⟨g, k, none⟩ = some u := by
        rw [World.ownsRow.cellAt hr2 k (by omega)]
        refine ⟨_, List.getElem?_eq_getElem (by rw [hr2.1]; omega)⟩
      have hf := World.ownsRow.frozenAt hr2 k
      have hst := (World.ownsRow.stored hr2 k (.string (markT (q + k)))).1
      have hL : ((marksT q k).map Value.string ++ cs.drop k).set k (.string (markT (q + k))) = (marksT q (k + 1)).map Value.string ++ cs.drop (k + 1) := by
        have e1 : ((marksT q k).map Value.string).length = k := by rw [List.length_map, marksT_length]
        rw [List.set_append_right _ _ (by omega), e1, Nat.sub_self, List.drop_eq_getElem_cons (by rw [HCL.out]; exact hlt), List.set_cons_zero]
        have e2 : marksT q (k + 1) = marksT q k ++ [markT (q + k)] := by
          apply List.ext_getElem?
          intro i
          by_cases hi : i < k
          · rw [marksT_get _ _ _ (by omega), List.getElem?_append_left (by rw [marksT_length]; exact hi), marksT_get _ _ _ hi]
          · by_cases hi2 : i = k
            · subst hi2
              rw [marksT_get _ _ _ (by omega), List.getElem?_append_right (by rw [marksT_length]; omega), marksT_length]; simp
            · rw [List.getElem?_eq_none (by rw [marksT_length]; omega), List.getElem?_eq_none (by rw [List.length_append, marksT_length]; simp; omega)]
        rw [e2, List.map_append, List.append_assoc]; rfl
      rw [hL] at hst
      have HST := Lib.hid hst
      have hke3 := (hke.trans (Kept.of_below (C := B) (D := w.heap.size) hb2 (Nat.le_refl _))).set ⟨g, k, none⟩ (.string (markT (q + k))) hBg hgl
      clear hst hL hr2
      go_wp2_with fail
      go_roundw
      case rel => exact ⟨k + 1, cs, by omega, by go_num, by go_num, HCL.out, HST.out, hke3⟩
      case measure => simp [intOf] <;> omega
    · obtain rfl : k = n := by omega
      rw [List.drop_of_length_le (by omega), List.append_nil] at hr
      have HR := Lib.hid hr
      clear hr
      go_wp2_with fail
      go_ret
      exact ⟨rfl, ⟨marksT_length _ _, hn, .inr ⟨g, rfl, HR.out⟩⟩, hke⟩
set_option maxHeartbeats 2000000 in
theorem heldStringS_any (w : World) (B : Nat) (ao : Option Addr) (n c : Nat) (q : Nat) (ha : Strs w B ao n (marksT q n)) (hB : B ≤ w.heap.size) (hq : q ≤ 1000000000) (hn20 : n ≤ 1048576) :
    Calls Tryz.prog 33 #[.slice ao n c, .int .i64 q] w (RetN ((q + n : Nat) : Int) w) := by
  have hn := ha.le
  go_enter Tryz.func33, Tryz.ntmps33
  go_wp2
  go_loopw [1, 5] (fun qv i wr => ∃ k : Nat, k ≤ n ∧ i = .int .i64 k ∧ qv = .int .i64 ((q + k : Nat) : Int) ∧ Below w.heap.size w wr) (fun _ i _ => n - (intOf i).toNat)
  case atStart => exact ⟨0, Nat.zero_le _, rfl, rfl, Below.refl _ _⟩
  case round =>
    obtain ⟨k, hk, rfl, rfl, hbel⟩ := hrel
    by_cases hlt : k < n
    · obtain ⟨b1, o1, x, rfl, hb1, hx, hc1⟩ := (ha.below hbel hB).at hlt
      rw [marksT_get _ _ _ hlt] at hx
      simp only [Option.some.injEq] at hx
      subst hx
      have hbw : b1 < w.heap.size := Nat.lt_of_lt_of_le hb1 hB
      have hS : ∀ W, Below wr.heap.size wr W → W.cell? ⟨b1, o1 + k, none⟩ = some (.string (markT (q + k))) ∧ Below w.heap.size w W :=
        fun W h => ⟨(h.cell (p := ⟨b1, o1 + k, none⟩) (Nat.lt_of_lt_of_le hbw hbel.size)).trans hc1, hbel.trans (h.mono hbel.size)⟩
      have hS2 : ∀ W W', (W.cell? ⟨b1, o1 + k, none⟩ = some (.string (markT (q + k))) ∧ Below w.heap.size w W) → Below W.heap.size W W' → (W'.cell? ⟨b1, o1 + k, none⟩ = some (.string (markT (q + k))) ∧ Below w.heap.size w W') :=
        fun W W' h hb => ⟨(hb.cell (p := ⟨b1, o1 + k, none⟩) (Nat.lt_of_lt_of_le hbw h.2.size)).trans h.1, h.2.trans (hb.mono h.2.size)⟩
      have HS := Lib.hid hS
      have HS2 := Lib.hid hS2
      clear hS hS2
      go_wp2_with fail
      go_region_held3 (fun w' => w'.cell? ⟨b1, o1 + k, none⟩ = some (.string (markT (q + k))) ∧ Below w.heap.size w w') (first | exact HS.out _ (bdrewN (Below.refl _ _) 1) | exact HS2.out _ _ (by assumption) hb')
        (first | (go_at_call 31; refine (markText_any _ _ (by omega)).mono ?_; rintro e w' ⟨rfl, hb'⟩))
      all_goals
        rename_i hfin
        go_wp2_with fail
        go_roundw
        case rel => exact ⟨k + 1, by omega, by go_num, by go_num, hfin.2⟩
        case measure => simp [intOf] <;> omega
    · obtain rfl : k = n := by omega
      go_wp2
      go_ret
      exact ⟨rfl, hbel⟩
end Go.Proofs.YtdlddkgmjpmenaaGreatDoor
/-
  The language: a program that a call has handed back: its lines and their parts, each in a row of its own.
-/
namespace Go.Proofs.YtdlddkgmjpmenaaGreatDoor
open Go.RowKit
set_option linter.unusedVariables false
set_option linter.unusedSimpArgs false

/-- Rows of elements of two types are apart. -/
theorem ownC_apart {e e' : TypeId} {z z' C D : Nat} {w : World} {ao bo : Option Addr} {n cap m d : Nat} {xs ys : List Value} (h : OwnC e z C w ao n cap xs) (k : OwnC e' z' D w bo m d ys) (hne : e ≠ e') : ∀ p q, rowOf ao cap = some p → rowOf bo d = some q → p ≠ q := by
  intro p q hp hq he
  subst he
  rcases h with ⟨_, _, h0⟩ | ⟨g, rfl, hr⟩
  · subst h0; simp [rowOf] at hp
  rcases k with ⟨_, _, k0⟩ | ⟨g', rfl, kr⟩
  · subst k0; simp [rowOf] at hq
  have hg : g = p := by unfold rowOf at hp; split at hp <;> simp_all
  have hg' : g' = p := by unfold rowOf at hq; split at hq <;> simp_all
  subst hg
  subst hg'
  rcases hr.2 with ⟨hv, _⟩ | ⟨b, cap1, cur1, hv, _, hb, _⟩
  · cases hv
  rcases kr.2 with ⟨kv, _⟩ | ⟨b', cap2, cur2, kv, _, kb, _⟩
  · cases kv
  simp only [Value.slice.injEq, Option.some.injEq, Addr.mk.injEq] at hv kv
  obtain ⟨⟨rfl, _⟩, _⟩ := hv
  obtain ⟨⟨rfl, _⟩, _⟩ := kv
  rw [hb] at kb
  simp only [Option.some.injEq, Obj.cells.injEq] at kb
  exact hne kb.2.1
def Apart (hs : List (Option Addr × Nat)) : Prop := ∀ (i j : Nat) (x y : Option Addr × Nat), hs[i]? = some x → hs[j]? = some y → i ≠ j → ∀ p, rowOf x.1 x.2 = some p → rowOf y.1 y.2 ≠ some p
structure TT (B : Nat) (w : World) (ao : Option Addr) (n cap : Nat) (hs : List (Option Addr × Nat)) (ls : List Ln) : Prop where
  len : ls.length = n
  le : n ≤ 1000000000
  hlen : hs.length = n
  row : OwnC 47 7 B w ao n cap (linesCells ls hs)
  parts : ∀ (k : Nat) (l : Ln) (x : Option Addr × Nat), ls[k]? = some l → hs[k]? = some x → OwnSt B w x.1 l.parts.length x.2 l.parts
  apart : Apart hs
section
variable {B C D n cap : Nat} {w w' : World} {ao : Option Addr} {hs : List (Option Addr × Nat)} {ls : List Ln}
theorem TT.below (h : TT B w ao n cap hs ls) (hb : Below C w w') (hC : w.heap.size ≤ C) : TT B w' ao n cap hs ls :=
  ⟨h.len, h.le, h.hlen, h.row.below hb hC, fun k l x a b => (h.parts k l x a b).below hb hC, h.apart⟩
theorem TT.up (h : TT B w ao n cap hs ls) (hC : C ≤ B) : TT C w ao n cap hs ls :=
  ⟨h.len, h.le, h.hlen, h.row.up hC, fun k l x a b => (h.parts k l x a b).up hC, h.apart⟩
theorem TT.kept (h : TT B w ao n cap hs ls) (hk : Kept C D w w') (hD : D ≤ B) : TT B w' ao n cap hs ls :=
  ⟨h.len, h.le, h.hlen, hk.own h.row (fun b hb => .inr (by have := (h.row.rowLt b hb).1; omega)), fun k l x a b => hk.ownSt (h.parts k l x a b) (fun p hp => .inr (by have := ((h.parts k l x a b).rowLt p hp).1; omega)), h.apart⟩
theorem TT.lns (h : TT B w ao n cap hs ls) : Lns w w.heap.size ao n ls :=
  ⟨h.len, h.le, hs, h.hlen, h.row.cellsAt, fun k l x a b => (h.parts k l x a b).strs⟩
theorem TT.at (h : TT B w ao n cap hs ls) {k : Nat} {l : Ln} (hl : ls[k]? = some l) : ∃ g x, ao = some ⟨g, 0, none⟩ ∧ hs[k]? = some x ∧ B ≤ g ∧ g < w.heap.size ∧ w.ownsRow B 47 7 (.slice (some ⟨g, 0, none⟩) n cap) n (linesCells ls hs) ∧
    (∀ (j : Nat) (v : Value), (lineCells l x)[j]? = some v → w.cell? ⟨g, k * 7 + j, none⟩ = some v) ∧ (∀ j, w.frozen? ⟨g, j, none⟩ = false) := by
  have hk : k < n := by rw [← h.len]; exact (List.getElem?_eq_some_iff.1 hl).1
  obtain ⟨g, rfl, h1, h2, h3⟩ := h.row.some (by omega)
  obtain ⟨x, hx⟩ := getL_at (i := k) h.hlen hk
  refine ⟨g, x, rfl, hx, h1, h2, h3, fun j v hv => ?_, fun j => World.ownsRow.frozenAt h3 j⟩
  have hj : j < 7 := (List.getElem?_eq_some_iff.1 hv).1
  rw [World.ownsRow.cellAt h3 (k * 7 + j) (by omega)]
  exact linesCells_at ls hs k l x hl hx j v hv
theorem linesCells_set : ∀ (ls : List Ln) (hs : List (Option Addr × Nat)) (k j : Nat) (l l' : Ln) (x : Option Addr × Nat) (v : Value), ls[k]? = some l → hs[k]? = some x → j < 7 → lineCells l' x = (lineCells l x).set j v → linesCells (ls.set k l') hs = (linesCells ls hs).set (k * 7 + j) v
  | [], _, k, j, l, l', x, v, e, _, _, _ => by simp at e
  | _ :: _, [], k, j, l, l', x, v, _, e, _, _ => by simp at e
  | l0 :: ls, h0 :: hs, 0, j, l, l', x, v, e1, e2, hj, e3 => by
    simp at e1 e2
    subst e1
    subst e2
    rw [List.set_cons_zero, linesCells, linesCells, Nat.zero_mul, Nat.zero_add, List.set_append_left _ _ (by exact hj), e3]
  | l0 :: ls, h0 :: hs, k + 1, j, l, l', x, v, e1, e2, hj, e3 => by
    simp at e1 e2
    rw [List.set_cons_succ, linesCells, linesCells, linesCells_set ls hs k j l l' x v e1 e2 hj e3]
    have hl : (lineCells l0 h0).length = 7 := rfl
    rw [List.set_append_right _ _ (by rw [hl]; omega), hl]
    congr 2
    omega
theorem linesCells_parts : ∀ (ls : List Ln) (hs : List (Option Addr × Nat)) (k : Nat) (l l' : Ln), ls[k]? = some l → (∀ x, lineCells l' x = lineCells l x) → linesCells (ls.set k l') hs = linesCells ls hs
  | [], _, k, l, l', e, _ => by simp at e
  | l0 :: ls, [], 0, l, l', e, _ => by simp [linesCells]
  | l0 :: ls, [], k + 1, l, l', e, _ => by simp [linesCells]
  | l0 :: ls, h0 :: hs, 0, l, l', e, e3 => by
    simp at e
    subst e
    rw [List.set_cons_zero, linesCells, linesCells, e3]
  | l0 :: ls, h0 :: hs, k + 1, l, l', e, e3 => by
    simp at e
    rw [List.set_cons_succ, linesCells, linesCells, linesCells_parts ls hs k l l' e e3]
theorem TT.set {g : Nat} (h : TT B w (some ⟨g, 0, none⟩) n cap hs ls) {k : Nat} {l : Ln} (hl : ls[k]? = some l) (j : Nat) (hj : j < 7) (l' : Ln) (v : Value) (hc : ∀ x, lineCells l' x = (lineCells l x).set j v) (hp : l'.parts = l.parts) :
    TT B (w.setCell ⟨g, k * 7 + j, none⟩ v) (some ⟨g, 0, none⟩) n cap hs (ls.set k l') := by
  obtain ⟨g', x, hg, hx, h1, h2, h3, h4, h5⟩ := h.at hl
  simp only [Option.some.injEq, Addr.mk.injEq] at hg
  obtain ⟨rfl, _⟩ := hg
  have hk : k < n := by rw [← h.len]; exact (List.getElem?_eq_some_iff.1 hl).1
  obtain ⟨q1, q2⟩ := World.ownsRow.stored h3 (k * 7 + j) v
  rw [← linesCells_set ls hs k j l l' x v hl hx hj (hc x)] at q1
  refine ⟨by rw [List.length_set]; exact h.len, h.le, h.hlen, .inr ⟨g, rfl, q1⟩, fun i y z a b => ?_, h.apart⟩
  have hy : ∃ y', ls[i]? = some y' ∧ y.parts = y'.parts := by
    by_cases hik : k = i
    · subst hik
      rw [List.getElem?_set_self (by rw [h.len]; exact hk)] at a
      simp only [Option.some.injEq] at a
      subst a
      exact ⟨l, hl, hp⟩
    · rw [List.getElem?_set_ne hik] at a
      exact ⟨y, a, rfl⟩
  obtain ⟨y', a', e⟩ := hy
  rw [e]
  refine (h.parts i y' z a' b).other q2 fun p q hp hq => ?_
  have hrow : rowOf (some ⟨g, 0, none⟩) cap = some g := by
    have hcap : cap ≠ 0 := by
      rcases h3.2 with ⟨hv, _⟩ | ⟨b', cap1, cur1, hv, _, hb, hn', _⟩
      · cases hv
      · simp only [Value.slice.injEq] at hv
        obtain ⟨_, _, rfl⟩ := hv
        omega
    simp [rowOf, hcap]
  simp only [Option.some.injEq] at hq
  subst hq
  exact ownC_apart (h.parts i y' z a' b).2.2 h.row (by decide) p _ hp hrow
end
def markLn (q : Nat) (l : Ln) : Ln := ⟨(q : Int), markT (q + 1), markT (q + 2), marksT (q + 3) l.parts.length, ((q + 3 + l.parts.length : Nat) : Int), ((q + 4 + l.parts.length : Nat) : Int), ((q + 5 + l.parts.length : Nat) : Int)⟩
def markL (q : Nat) : List Ln → List Ln
  | [] => []
  | l :: ls => markLn q l :: markL (q + 6 + l.parts.length) ls
theorem markL_length : ∀ (ls : List Ln) (q : Nat), (markL q ls).length = ls.length
  | [], _ => rfl
  | l :: ls, q => by rw [markL, List.length_cons, markL_length ls, List.length_cons]
theorem partsSum_cons (l : Ln) (ls : List Ln) : partsSum (l :: ls) = l.parts.length + partsSum ls := by
  unfold partsSum
  rw [List.map_cons, List.foldl_cons, Nat.zero_add]
  have : ∀ (xs : List Nat) (a : Nat), xs.foldl (· + ·) a = a + xs.foldl (· + ·) 0 := by
    intro xs
    induction xs with
    | nil => intro a; rfl
    | cons x r ih => intro a; rw [List.foldl_cons, ih, List.foldl_cons, Nat.zero_add, ih x]; omega
  rw [this]
theorem markL_get : ∀ (ls : List Ln) (q k : Nat) (l : Ln), ls[k]? = some l → (markL q ls)[k]? = some (markLn (q + 6 * k + partsSum (ls.take k)) l)
  | [], q, k, l, e => by simp at e
  | l0 :: ls, q, 0, l, e => by
    simp at e
    subst e
    simp [markL, partsSum]
  | l0 :: ls, q, k + 1, l, e => by
    simp at e
    rw [markL, List.getElem?_cons_succ, markL_get ls _ k l e, List.take_succ_cons, partsSum_cons]
    congr 2
    omega
end Go.Proofs.YtdlddkgmjpmenaaGreatDoor
/-
  The language: a program that a call has handed back is written over, and read again.
-/
namespace Go.Proofs.YtdlddkgmjpmenaaGreatDoor
open Go.RowKit
set_option linter.unusedVariables false
set_option linter.unusedSimpArgs false

set_option maxHeartbeats 2000000 in
theorem markStringS_g (w : World) (B C D : Nat) (ao : Option Addr) (n cap : Nat) (q : Nat) (ss : List ByteArray) (ho : OwnSt B w ao n cap ss) (hq : q ≤ 1000000000) (hn20 : n ≤ 1048576) (hrw : ∀ p, rowOf ao cap = some p → C ≤ p ∧ p < D) :
    Calls Tryz.prog 32 #[.slice ao n cap, .int .i64 q] w fun e w' => e = .returned (.int .i64 ((q + n : Nat) : Int)) ∧ OwnSt B w' ao n cap (marksT q n) ∧ Kept C D w w' := by
  have hn := ho.le
  rcases Nat.eq_zero_or_pos n with rfl | hp
  · have hx : ss = [] := List.eq_nil_of_length_eq_zero ho.1
    subst hx
    go_enter Tryz.func32, Tryz.ntmps32
    go_wp2
    refine wp_loop_rounds 1 ?_
    rw [rounds_succ]
    go_wp2
    go_ret
    exact ⟨rfl, ho, Kept.refl _ _ _⟩
  obtain ⟨g, rfl, hBg, hgl, hrow⟩ := ho.2.2.some hp
  obtain ⟨hCg, hgD⟩ := hrw g (by
    have hcap : cap ≠ 0 := by
      rcases hrow.2 with ⟨hv, _⟩ | ⟨b', cap1, cur1, hv, _, hb, hn', _⟩
      · cases hv
      · simp only [Value.slice.injEq] at hv
        obtain ⟨_, _, rfl⟩ := hv
        omega
    simp [rowOf, hcap])
  clear hrw
  have hlen := Lib.hid ho.1
  go_enter Tryz.func32, Tryz.ntmps32
  go_wp2
  go_loopw [1, 5] (fun qv i wr => ∃ (k : Nat) (cs : List Value), k ≤ n ∧ i = .int .i64 k ∧ qv = .int .i64 ((q + k : Nat) : Int) ∧ cs.length = n ∧ wr.ownsRow B 9 1 (.slice (some ⟨g, 0, none⟩) n cap) n ((marksT q k).map Value.string ++ cs.drop k) ∧ Kept C D w wr) (fun _ i _ => n - (intOf i).toNat)
  case atStart => exact ⟨0, ss.map Value.string, Nat.zero_le _, rfl, rfl, by simp [hlen.out], by simpa [marksT] using hrow, Kept.refl _ _ _⟩
  case round =>
    obtain ⟨k, cs, hk, rfl, rfl, hcl, hr, hke⟩ := hrel
    by_cases hlt : k < n
    · have HR := Lib.hid hr
      have HCL := Lib.hid hcl
      have hgw : g < wr.heap.size := Nat.lt_of_lt_of_le hgl hke.size
      clear hr hcl
      go_wp2_with fail
      refine (markText_any _ _ (by omega)).mono ?_
      rintro e w2 ⟨rfl, hb2⟩
      have hr2 := ownsRow_below HR.out hb2 (Nat.le_refl _)
      obtain ⟨u, hu⟩ : ∃ u, w2.cell? ⟨g, k, none⟩ = some u := by
        rw [World.ownsRow.cellAt hr2 k (by omega)]
        refine ⟨_, List.getElem?_eq_getElem (by rw [hr2.1]; omega)⟩
      have hf := World.ownsRow.frozenAt hr2 k
      have hst := (World.ownsRow.stored hr2 k (.string (markT (q + k)))).1
      have hL : ((marksT q k).map Value.string ++ cs.drop k).set k (.string (markT (q + k))) = (marksT q (k + 1)).map Value.string ++ cs.drop (k + 1) := by
        have e1 : ((marksT q k).map Value.string).length = k := by rw [List.length_map, marksT_length]
        rw [List.set_append_right _ _ (by omega), e1, Nat.sub_self, List.drop_eq_getElem_cons (by rw [HCL.out]; exact hlt), List.set_cons_zero]
        have e2 : marksT q (k + 1) = marksT q k ++ [markT (q + k)] := by
          apply List.ext_getElem?
          intro i
          by_cases hi : i < k
          · rw [marksT_get _ _ _ (by omega), List.getElem?_append_left (by rw [marksT_length]; exact hi), marksT_get _ _ _ hi]
          · by_cases hi2 : i = k
            · subst hi2
              rw [marksT_get _ _ _ (by omega), List.getElem?_append_right (by rw [marksT_length]; omega), marksT_length]; simp
            · rw [List.getElem?_eq_none (by rw [marksT_length]; omega), List.getElem?_eq_none (by rw [List.length_append, marksT_length]; simp; omega)]
        rw [e2, List.map_append, List.append_assoc]; rfl
      rw [hL] at hst
      have HST := Lib.hid hst
      have hke3 := (hke.trans (Kept.of_below (C := C) (D := D) hb2 (Nat.le_refl _))).set ⟨g, k, none⟩ (.string (markT (q + k))) hCg hgD
      clear hst hL hr2
      go_wp2_with fail
      go_roundw
      case rel => exact ⟨k + 1, cs, by omega, by go_num, by go_num, HCL.out, HST.out, hke3⟩
      case measure => simp [intOf] <;> omega
    · obtain rfl : k = n := by omega
      rw [List.drop_of_length_le (by omega), List.append_nil] at hr
      have HR := Lib.hid hr
      clear hr
      go_wp2_with fail
      go_ret
      exact ⟨rfl, ⟨marksT_length _ _, hn, .inr ⟨g, rfl, HR.out⟩⟩, hke⟩
section
variable {B C D n cap g k : Nat} {w w' : World} {hs : List (Option Addr × Nat)} {ms : List Ln} {l1 l2 : Ln} {x : Option Addr × Nat}
theorem TT.lt (h : TT B w (some ⟨g, 0, none⟩) n cap hs (ms.set k l1)) (hk : k < n) : (ms.set k l1)[k]? = some l1 := by
  have := h.len
  rw [List.length_set] at this
  rw [List.getElem?_set_self (by omega)]
theorem TT.cellAt (h : TT B w (some ⟨g, 0, none⟩) n cap hs (ms.set k l1)) (hk : k < n) (hx : hs[k]? = some x) {j : Nat} {v : Value} (hv : (lineCells l1 x)[j]? = some v) : w.cell? ⟨g, k * 7 + j, none⟩ = some v := by
  obtain ⟨g', x', hg, hx', h1, h2, h3, h4, h5⟩ := h.at (h.lt hk)
  simp only [Option.some.injEq, Addr.mk.injEq] at hg
  obtain ⟨rfl, _⟩ := hg
  rw [hx] at hx'
  simp only [Option.some.injEq] at hx'
  subst hx'
  exact h4 j v hv
theorem TT.free (h : TT B w (some ⟨g, 0, none⟩) n cap hs (ms.set k l1)) (hk : k < n) (j : Nat) : w.frozen? ⟨g, j, none⟩ = false := by
  obtain ⟨g', x', hg, hx', h1, h2, h3, h4, h5⟩ := h.at (h.lt hk)
  simp only [Option.some.injEq, Addr.mk.injEq] at hg
  obtain ⟨rfl, _⟩ := hg
  exact h5 j
theorem TT.put (h : TT B w (some ⟨g, 0, none⟩) n cap hs (ms.set k l1)) (hk : k < n) (j : Nat) (hj : j < 7) (l2 : Ln) (v : Value) (hc : ∀ x, lineCells l2 x = (lineCells l1 x).set j v) (hp : l2.parts = l1.parts) :
    TT B (w.setCell ⟨g, k * 7 + j, none⟩ v) (some ⟨g, 0, none⟩) n cap hs (ms.set k l2) := by
  have := h.set (h.lt hk) j hj l2 v hc hp
  rwa [List.set_set] at this
theorem TT.window (h : TT B w (some ⟨g, 0, none⟩) n cap hs (ms.set k l1)) (hk : k < n) (hx : hs[k]? = some x) (hB : B ≤ w.heap.size) : ∃ C D, (∀ p, rowOf x.1 x.2 = some p → C ≤ p ∧ p < D) ∧ (∀ q, rowOf x.1 x.2 ≠ some q → q < C ∨ D ≤ q) ∧ B ≤ C ∧ C ≤ w.heap.size := by
  have ho := h.parts k l1 x (h.lt hk) hx
  cases hr : rowOf x.1 x.2 with
  | none => exact ⟨B, B, (fun p hp => by cases hp), (fun q _ => by omega), Nat.le_refl _, hB⟩
  | some p =>
    have := ho.rowLt p hr
    exact ⟨p, p + 1, (fun q hq => by simp only [Option.some.injEq] at hq; omega), (fun q hq => by simp only [ne_eq, Option.some.injEq] at hq; omega), this.1, by omega⟩
theorem TT.putParts (h : TT B w (some ⟨g, 0, none⟩) n cap hs (ms.set k l1)) (hk : k < n) (hx : hs[k]? = some x) (hke : Kept C D w w') (hout : ∀ q, rowOf x.1 x.2 ≠ some q → q < C ∨ D ≤ q)
    (l2 : Ln) (ho : OwnSt B w' x.1 l2.parts.length x.2 l2.parts) (hc : ∀ y, lineCells l2 y = lineCells l1 y) : TT B w' (some ⟨g, 0, none⟩) n cap hs (ms.set k l2) := by
  have hl := h.lt hk
  have hpx := h.parts k l1 x hl hx
  have hlen := h.len
  rw [List.length_set] at hlen
  have e : linesCells (ms.set k l2) hs = linesCells (ms.set k l1) hs := by
    rw [← linesCells_parts (ms.set k l1) hs k l1 l2 hl hc, List.set_set]
  refine ⟨by rw [List.length_set]; exact hlen, h.le, h.hlen, ?_, fun i y z a b => ?_, h.apart⟩
  · rw [e]
    exact hke.own h.row (fun b hb => hout b fun hb' => ownC_apart hpx.2.2 h.row (by decide) b b hb' hb rfl)
  · by_cases hik : k = i
    · subst hik
      rw [List.getElem?_set_self (by omega)] at a
      simp only [Option.some.injEq] at a
      subst a
      rw [hx] at b
      simp only [Option.some.injEq] at b
      subst b
      exact ho
    · rw [List.getElem?_set_ne hik] at a
      have a' : (ms.set k l1)[i]? = some y := by rw [List.getElem?_set_ne hik]; exact a
      exact hke.ownSt (h.parts i y z a' b) (fun p hp => hout p fun hp' => h.apart k i x z hx b hik p hp' hp)
end
theorem List.set_getElem?_self' {α : Type} {xs : List α} {k : Nat} {x : α} (h : xs[k]? = some x) : xs.set k x = xs := by
  apply List.ext_getElem?
  intro i
  by_cases hi : k = i
  · subst hi
    rw [List.getElem?_set_self (List.getElem?_eq_some_iff.1 h).1, h]
  · rw [List.getElem?_set_ne hi]
theorem wname' {B : Nat} {w w' : World} (h : Below B w w') : ∃ W, W = w' := ⟨_, rfl⟩
set_option maxRecDepth 100000 in
set_option maxHeartbeats 8000000 in
theorem markLineS_t (w : World) (B : Nat) (ao : Option Addr) (n cap : Nat) (hs : List (Option Addr × Nat)) (ls : List Ln) (h : TT B w ao n cap hs ls) (hB : B ≤ w.heap.size) (hok : okS ls) (hsum : n + partsSum ls ≤ 1048576) :
    Calls Tryz.prog 8 #[.slice ao n cap, .int .i64 1] w fun e w' => e = .returned (.int .i64 ((1 + 6 * n + partsSum ls : Nat) : Int)) ∧ TT B w' ao n cap hs (markL 1 ls) ∧ Below B w w' := by
  have HT := Lib.hid h
  have HOK := Lib.hid hok
  have HN := Lib.hid h.len
  have hn20 : n ≤ 1048576 := by omega
  have HSUM := Lib.hid hsum
  clear h hok hsum
  go_enter Tryz.func8, Tryz.ntmps8
  go_wp2_with fail
  go_loopw [1, 5] (fun qv i wr => ∃ (k Q : Nat), k ≤ n ∧ i = .int .i64 k ∧ qv = .int .i64 Q ∧ Hid (Q = 1 + 6 * k + partsSum (ls.take k)) ∧ TT B wr ao n cap hs ((markL 1 ls).take k ++ ls.drop k) ∧ Below B w wr) (fun _ i _ => n - (intOf i).toNat)
  case atStart => exact ⟨0, 1, Nat.zero_le _, rfl, rfl, by show _ = _; simp [partsSum], by simpa using HT.out, Below.refl _ _⟩
  case round =>
    obtain ⟨k, Q, hk, rfl, rfl, HQ, htt, hbel⟩ := hrel
    obtain ⟨wr, hwr⟩ := wname' hbel
    subst hwr
    by_cases hlt : k < n
    · obtain ⟨l, hl⟩ := getL_at (i := k) HN.out hlt
      have hpl := (okS_at HOK.out hl).2.2
      have HST := Lib.hid (partsSum_step hl)
      have HMG := Lib.hid (markL_get ls 1 k l hl)
      have hQb : Q ≤ 10000000 := by have := HSUM.out; have := partsSum_le ls k; have := HQ.out; omega
      have hms : ((markL 1 ls).take k ++ ls.drop k)[k]? = some l := by
        rw [List.getElem?_append_right (by rw [List.length_take]; omega), List.length_take, markL_length, HN.out, Nat.min_eq_left hk, Nat.sub_self, List.getElem?_drop, Nat.add_zero, hl]
      obtain ⟨ms, hmse⟩ : ∃ ms, ms = (markL 1 ls).take k ++ ls.drop k := ⟨_, rfl⟩
      rw [← hmse] at htt hms
      have HMS := Lib.hid hmse
      have h0 : TT B wr ao n cap hs (ms.set k l) := by rw [show ms.set k l = ms from List.set_getElem?_self' hms]; exact htt
      obtain ⟨g, x, rfl, hx, hBg, _, _, _, _⟩ := htt.at hms
      have HX := Lib.hid hx
      have HTT := Lib.hid h0
      clear h0 htt hmse hms hl hx
      have a0 := HTT.out.cellAt hlt HX.out (j := 0) rfl
      have f0 := HTT.out.free hlt (k * 7 + 0)
      rw [Nat.add_zero] at a0 f0
      obtain ⟨W1, hW1⟩ : ∃ W1, W1 = wr.setCell ⟨g, k * 7, none⟩ (.int .i64 Q) := ⟨_, rfl⟩
      have htW1 : TT B W1 (some ⟨g, 0, none⟩) n cap hs (ms.set k ⟨(Q : Int), l.name, l.op, l.parts, l.party, l.width, l.value⟩) := by rw [hW1]; exact HTT.out.put hlt 0 (by decide) ⟨(Q : Int), l.name, l.op, l.parts, l.party, l.width, l.value⟩ _ (fun _ => rfl) rfl
      have hbeW1 : Below B w W1 := by rw [hW1]; exact below_set hbel _ _ hBg
      have hzW1 : B ≤ W1.heap.size := Nat.le_trans hB hbeW1.size
      have HW1 := Lib.hid hW1
      clear hbel HTT hW1
      have hbel := hbeW1
      have HTT := Lib.hid htW1
      clear hbeW1 htW1
      go_wp2_with (rw [← HW1.out])
      have e1 : (Q : Int) + 1 = ((Q + 1 : Nat) : Int) := by omega
      rw [e1]
      clear a0 f0 e1
      refine (markText_any _ _ (by omega)).mono ?_
      rintro e w2 ⟨rfl, hbw2⟩
      have hbel' := hbel.trans (hbw2.mono (Nat.le_trans hB hbel.size))
      have ht' := HTT.out.below hbw2 (Nat.le_refl _)
      clear hbel HTT
      have hbel := hbel'
      have HTT := Lib.hid ht'
      clear hbel' ht'
      have a1 := HTT.out.cellAt hlt HX.out (j := 1) rfl
      have f1 := HTT.out.free hlt (k * 7 + 1)
      obtain ⟨W3, hW3⟩ : ∃ W3, W3 = w2.setCell ⟨g, k * 7 + 1, none⟩ (.string (markT (Q + 1))) := ⟨_, rfl⟩
      have htW3 : TT B W3 (some ⟨g, 0, none⟩) n cap hs (ms.set k ⟨(Q : Int), markT (Q + 1), l.op, l.parts, l.party, l.width, l.value⟩) := by rw [hW3]; exact HTT.out.put hlt 1 (by decide) ⟨(Q : Int), markT (Q + 1), l.op, l.parts, l.party, l.width, l.value⟩ _ (fun _ => rfl) rfl
      have hbeW3 : Below B w W3 := by rw [hW3]; exact below_set hbel _ _ hBg
      have hzW3 : B ≤ W3.heap.size := Nat.le_trans hB hbeW3.size
      have HW3 := Lib.hid hW3
      clear hbel HTT hW3
      have hbel := hbeW3
      have HTT := Lib.hid htW3
      clear hbeW3 htW3
      go_wp2_with (rw [← HW3.out])
      have e1 : (Q : Int) + 1 + 1 = ((Q + 2 : Nat) : Int) := by omega
      rw [e1]
      clear a1 f1 e1
      refine (markText_any _ _ (by omega)).mono ?_
      rintro e w4 ⟨rfl, hbw4⟩
      have hbel' := hbel.trans (hbw4.mono (Nat.le_trans hB hbel.size))
      have ht' := HTT.out.below hbw4 (Nat.le_refl _)
      clear hbel HTT
      have hbel := hbel'
      have HTT := Lib.hid ht'
      clear hbel' ht'
      have a2 := HTT.out.cellAt hlt HX.out (j := 2) rfl
      have f2 := HTT.out.free hlt (k * 7 + 2)
      obtain ⟨W5, hW5⟩ : ∃ W5, W5 = w4.setCell ⟨g, k * 7 + 2, none⟩ (.string (markT (Q + 2))) := ⟨_, rfl⟩
      have htW5 : TT B W5 (some ⟨g, 0, none⟩) n cap hs (ms.set k ⟨(Q : Int), markT (Q + 1), markT (Q + 2), l.parts, l.party, l.width, l.value⟩) := by rw [hW5]; exact HTT.out.put hlt 2 (by decide) ⟨(Q : Int), markT (Q + 1), markT (Q + 2), l.parts, l.party, l.width, l.value⟩ _ (fun _ => rfl) rfl
      have hbeW5 : Below B w W5 := by rw [hW5]; exact below_set hbel _ _ hBg
      have hzW5 : B ≤ W5.heap.size := Nat.le_trans hB hbeW5.size
      have HW5 := Lib.hid hW5
      clear hbel HTT hW5
      have hbel := hbeW5
      have HTT := Lib.hid htW5
      clear hbeW5 htW5
      have a3 := HTT.out.cellAt hlt HX.out (j := 3) rfl
      go_wp2_with (rw [← HW5.out])
      have e1 : (Q : Int) + 2 + 1 = ((Q + 3 : Nat) : Int) := by omega
      rw [e1]
      clear a2 f2 a3 e1
      obtain ⟨C, D, hin, hout, hBC, hCs⟩ := HTT.out.window hlt HX.out hzW5
      have hpo := HTT.out.parts k _ x (HTT.out.lt hlt) HX.out
      refine (markStringS_g W5 B C D x.1 _ x.2 (Q + 3) _ hpo (by omega) hpl hin).mono ?_
      rintro e w6 ⟨rfl, hos6, hke6⟩
      have ht6 : TT B w6 (some ⟨g, 0, none⟩) n cap hs (ms.set k ⟨(Q : Int), markT (Q + 1), markT (Q + 2), marksT (Q + 3) l.parts.length, l.party, l.width, l.value⟩) := HTT.out.putParts hlt HX.out hke6 hout ⟨(Q : Int), markT (Q + 1), markT (Q + 2), marksT (Q + 3) l.parts.length, l.party, l.width, l.value⟩ (by rw [marksT_length]; exact hos6) (fun _ => by simp only [lineCells, marksT_length])
      have hbel6 := hbel.trans ((hke6.below hCs).mono hBC)
      clear hbel HTT hpo hin hout hos6
      have hbel := hbel6
      have HTT := Lib.hid ht6
      clear hbel6 ht6
      obtain ⟨R, hR⟩ : ∃ R, R = Q + 3 + l.parts.length := ⟨_, rfl⟩
      rw [← hR]
      have hRb : R ≤ 20000000 := by omega
      have HR := Lib.hid hR
      clear hR
      have a4 := HTT.out.cellAt hlt HX.out (j := 4) rfl
      have f4 := HTT.out.free hlt (k * 7 + 4)
      obtain ⟨W7, hW7⟩ : ∃ W7, W7 = w6.setCell ⟨g, k * 7 + 4, none⟩ (.int .i64 R) := ⟨_, rfl⟩
      have htW7 : TT B W7 (some ⟨g, 0, none⟩) n cap hs (ms.set k ⟨(Q : Int), markT (Q + 1), markT (Q + 2), marksT (Q + 3) l.parts.length, (R : Int), l.width, l.value⟩) := by rw [hW7]; exact HTT.out.put hlt 4 (by decide) ⟨(Q : Int), markT (Q + 1), markT (Q + 2), marksT (Q + 3) l.parts.length, (R : Int), l.width, l.value⟩ _ (fun _ => rfl) rfl
      have hbeW7 : Below B w W7 := by rw [hW7]; exact below_set hbel _ _ hBg
      have hzW7 : B ≤ W7.heap.size := Nat.le_trans hB hbeW7.size
      have HW7 := Lib.hid hW7
      clear hbel HTT hW7
      have hbel := hbeW7
      have HTT := Lib.hid htW7
      clear hbeW7 htW7
      have a5 := HTT.out.cellAt hlt HX.out (j := 5) rfl
      have f5 := HTT.out.free hlt (k * 7 + 5)
      obtain ⟨W8, hW8⟩ : ∃ W8, W8 = W7.setCell ⟨g, k * 7 + 5, none⟩ (.int .i64 (R + 1)) := ⟨_, rfl⟩
      have htW8 : TT B W8 (some ⟨g, 0, none⟩) n cap hs (ms.set k ⟨(Q : Int), markT (Q + 1), markT (Q + 2), marksT (Q + 3) l.parts.length, (R : Int), (R : Int) + 1, l.value⟩) := by rw [hW8]; exact HTT.out.put hlt 5 (by decide) ⟨(Q : Int), markT (Q + 1), markT (Q + 2), marksT (Q + 3) l.parts.length, (R : Int), (R : Int) + 1, l.value⟩ _ (fun _ => rfl) rfl
      have hbeW8 : Below B w W8 := by rw [hW8]; exact below_set hbel _ _ hBg
      have hzW8 : B ≤ W8.heap.size := Nat.le_trans hB hbeW8.size
      have HW8 := Lib.hid hW8
      clear hbel HTT hW8
      have hbel := hbeW8
      have HTT := Lib.hid htW8
      clear hbeW8 htW8
      have a6 := HTT.out.cellAt hlt HX.out (j := 6) rfl
      have f6 := HTT.out.free hlt (k * 7 + 6)
      obtain ⟨W9, hW9⟩ : ∃ W9, W9 = W8.setCell ⟨g, k * 7 + 6, none⟩ (.int .i64 ((R : Int) + 1 + 1)) := ⟨_, rfl⟩
      have htW9 : TT B W9 (some ⟨g, 0, none⟩) n cap hs (ms.set k ⟨(Q : Int), markT (Q + 1), markT (Q + 2), marksT (Q + 3) l.parts.length, (R : Int), (R : Int) + 1, (R : Int) + 1 + 1⟩) := by rw [hW9]; exact HTT.out.put hlt 6 (by decide) ⟨(Q : Int), markT (Q + 1), markT (Q + 2), marksT (Q + 3) l.parts.length, (R : Int), (R : Int) + 1, (R : Int) + 1 + 1⟩ _ (fun _ => rfl) rfl
      have hbeW9 : Below B w W9 := by rw [hW9]; exact below_set hbel _ _ hBg
      have hzW9 : B ≤ W9.heap.size := Nat.le_trans hB hbeW9.size
      have HW9 := Lib.hid hW9
      clear hbel HTT hW9
      have hbel := hbeW9
      have HTT := Lib.hid htW9
      clear hbeW9 htW9
      have hW9' : W8.setCell ⟨g, k * 7 + 6, none⟩ (.int .i64 ((R : Int) + 2)) = W9 := by rw [HW9.out, show (R : Int) + 1 + 1 = R + 2 from by omega]
      have HW9' := Lib.hid hW9'
      clear hW9'
      go_wp2_with (first | rw [← HW7.out] | rw [← HW8.out] | rw [← HW9.out] | rw [HW9'.out])
      go_roundw
      case rel =>
        have hQ := HQ.out
        have hR := HR.out
        have e1 : ⟨(Q : Int), markT (Q + 1), markT (Q + 2), marksT (Q + 3) l.parts.length, (R : Int), (R : Int) + 1, (R : Int) + 1 + 1⟩ = markLn Q l := by unfold markLn; rw [hR]; simp only [Ln.mk.injEq, true_and]; exact ⟨by omega, by omega⟩
        have e2 : ms.set k (markLn Q l) = (markL 1 ls).take (k + 1) ++ ls.drop (k + 1) := by rw [HMS.out, take_set (by rw [markL_length]) (by rw [HMG.out, hQ])]
        have h9 := HTT.out
        rw [e1, e2] at h9
        exact ⟨k + 1, R + 3, by omega, by go_num, by go_num, by show _ = _; rw [HST.out]; omega, h9, hbel⟩
      case measure => simp [intOf] <;> omega
    · obtain rfl : k = n := by omega
      rw [List.take_of_length_le (by rw [markL_length, HN.out]; exact Nat.le_refl _), List.drop_of_length_le (by rw [HN.out]; exact Nat.le_refl _), List.append_nil] at htt
      have HTT := Lib.hid htt
      rw [List.take_of_length_le (by rw [HN.out]; exact Nat.le_refl _)] at HQ
      clear htt
      go_wp2_with fail
      go_ret
      exact ⟨ret_int (by rw [← HQ.out]), HTT.out, hbel⟩
end Go.Proofs.YtdlddkgmjpmenaaGreatDoor
/-
  The language: a program that was written over reads as it was written.
-/
namespace Go.Proofs.YtdlddkgmjpmenaaGreatDoor
open Go.RowKit
set_option linter.unusedVariables false
set_option linter.unusedSimpArgs false

set_option maxRecDepth 100000 in
set_option maxHeartbeats 8000000 in
theorem heldLineS_any (w : World) (B : Nat) (ao : Option Addr) (n c : Nat) (ls : List Ln) (ha : Lns w B ao n (markL 1 ls)) (hB : B ≤ w.heap.size) (hok : okS ls) (hsum : n + partsSum ls ≤ 1048576) :
    Calls Tryz.prog 9 #[.slice ao n c, .int .i64 1] w (RetN ((1 + 6 * n + partsSum ls : Nat) : Int) w) := by
  have hn := ha.le
  have HOK := Lib.hid hok
  have hln : ls.length = n := by have := ha.1; rwa [markL_length] at this
  have HN := Lib.hid hln
  have hn20 : n ≤ 1048576 := by omega
  have HSUM := Lib.hid hsum
  clear hok hsum hln
  go_enter Tryz.func9, Tryz.ntmps9
  go_wp2_with fail
  go_loopw [1, 5] (fun qv i wr => ∃ (k Q : Nat), k ≤ n ∧ i = .int .i64 k ∧ qv = .int .i64 Q ∧ Hid (Q = 1 + 6 * k + partsSum (ls.take k)) ∧ Below w.heap.size w wr) (fun _ i _ => n - (intOf i).toNat)
  case atStart => exact ⟨0, 1, Nat.zero_le _, rfl, rfl, by show _ = _; simp [partsSum], Below.refl _ _⟩
  case round =>
    obtain ⟨k, Q, hk, rfl, rfl, HQ, hbel⟩ := hrel
    obtain ⟨wr, hwr⟩ := wname' hbel
    subst hwr
    by_cases hlt : k < n
    · obtain ⟨l, hl⟩ := getL_at (i := k) HN.out hlt
      have hpl := (okS_at HOK.out hl).2.2
      have HST := Lib.hid (partsSum_step hl)
      have hmg := markL_get ls 1 k l hl
      rw [show 1 + 6 * k + partsSum (ls.take k) = Q from HQ.out.symm] at hmg
      have hQb : Q ≤ 10000000 := by have := HSUM.out; have := partsSum_le ls k; have := HQ.out; omega
      obtain ⟨b, o, l', pa, pc, rfl, hb, hx, hps, g0, g1, g2, g3, g4, g5, g6⟩ := ha.at hlt
      rw [hmg] at hx
      obtain rfl : markLn Q l = l' := by simpa using hx
      have hbw : b < w.heap.size := Nat.lt_of_lt_of_le hb hB
      have hlen : (markLn Q l).parts.length = l.parts.length := marksT_length _ _
      rw [hlen] at g3 hps
      have C0 := Lib.hid (fun W (hW : Below w.heap.size w W) => (hW.cell (p := ⟨b, o + k * 7, none⟩) hbw).trans (show w.cell? ⟨b, o + k * 7, none⟩ = some (.int .i64 (Q : Int)) from g0))
      have C1 := Lib.hid (fun W (hW : Below w.heap.size w W) => (hW.cell (p := ⟨b, o + k * 7 + 1, none⟩) hbw).trans (show w.cell? ⟨b, o + k * 7 + 1, none⟩ = some (.string (markT (Q + 1))) from g1))
      have C2 := Lib.hid (fun W (hW : Below w.heap.size w W) => (hW.cell (p := ⟨b, o + k * 7 + 2, none⟩) hbw).trans (show w.cell? ⟨b, o + k * 7 + 2, none⟩ = some (.string (markT (Q + 2))) from g2))
      have C3 := Lib.hid (fun W (hW : Below w.heap.size w W) => (hW.cell (p := ⟨b, o + k * 7 + 3, none⟩) hbw).trans g3)
      have C4 := Lib.hid (fun W (hW : Below w.heap.size w W) => (hW.cell (p := ⟨b, o + k * 7 + 4, none⟩) hbw).trans (show w.cell? ⟨b, o + k * 7 + 4, none⟩ = some (.int .i64 ((Q + 3 + l.parts.length : Nat) : Int)) from g4))
      have C5 := Lib.hid (fun W (hW : Below w.heap.size w W) => (hW.cell (p := ⟨b, o + k * 7 + 5, none⟩) hbw).trans (show w.cell? ⟨b, o + k * 7 + 5, none⟩ = some (.int .i64 ((Q + 4 + l.parts.length : Nat) : Int)) from g5))
      have C6 := Lib.hid (fun W (hW : Below w.heap.size w W) => (hW.cell (p := ⟨b, o + k * 7 + 6, none⟩) hbw).trans (show w.cell? ⟨b, o + k * 7 + 6, none⟩ = some (.int .i64 ((Q + 5 + l.parts.length : Nat) : Int)) from g6))
      have HP := Lib.hid (fun W (hW : Below w.heap.size w W) => (show Strs W B pa l.parts.length (marksT (Q + 3) l.parts.length) from hps.below hW hB))
      clear g0 g1 g2 g3 g4 g5 g6 hps hx hmg hl hlen
      have hS : ∀ W, Below wr.heap.size wr W → W.cell? ⟨b, o + k * 7 + 1, none⟩ = some (.string (markT (Q + 1))) ∧ Below w.heap.size w W :=
        fun W h => ⟨C1.out W (hbel.trans (h.mono hbel.size)), hbel.trans (h.mono hbel.size)⟩
      have hS2 : ∀ W W', (W.cell? ⟨b, o + k * 7 + 1, none⟩ = some (.string (markT (Q + 1))) ∧ Below w.heap.size w W) → Below W.heap.size W W' → (W'.cell? ⟨b, o + k * 7 + 1, none⟩ = some (.string (markT (Q + 1))) ∧ Below w.heap.size w W') :=
        fun W W' h hb => ⟨C1.out W' (h.2.trans (hb.mono h.2.size)), h.2.trans (hb.mono h.2.size)⟩
      have HS := Lib.hid hS
      have HS2 := Lib.hid hS2
      clear hS hS2
      have c0 := C0.out wr hbel
      have c1 := C1.out wr hbel
      go_wp2_with fail
      have e1 : (Q : Int) + 1 = ((Q + 1 : Nat) : Int) := by omega
      rw [e1]
      clear e1 c0
      go_region_held3 (fun w' => w'.cell? ⟨b, o + k * 7 + 1, none⟩ = some (.string (markT (Q + 1))) ∧ Below w.heap.size w w') (first | exact HS.out _ (bdrewN (Below.refl _ _) 1) | exact HS2.out _ _ (by assumption) hb')
        (first | (go_at_call 31; refine (markText_any _ (Q + 1) (by omega)).mono ?_; rintro e w' ⟨rfl, hb'⟩))
      all_goals
        rename_i hfin
        obtain ⟨_, hbe2⟩ := hfin
        obtain ⟨w2, hw2⟩ := wname' hbe2
        subst hw2
        have hS : ∀ W, Below w2.heap.size w2 W → W.cell? ⟨b, o + k * 7 + 2, none⟩ = some (.string (markT (Q + 2))) ∧ Below w.heap.size w W :=
          fun W h => ⟨C2.out W (hbe2.trans (h.mono hbe2.size)), hbe2.trans (h.mono hbe2.size)⟩
        have hS2 : ∀ W W', (W.cell? ⟨b, o + k * 7 + 2, none⟩ = some (.string (markT (Q + 2))) ∧ Below w.heap.size w W) → Below W.heap.size W W' → (W'.cell? ⟨b, o + k * 7 + 2, none⟩ = some (.string (markT (Q + 2))) ∧ Below w.heap.size w W') :=
          fun W W' h hb => ⟨C2.out W' (h.2.trans (hb.mono h.2.size)), h.2.trans (hb.mono h.2.size)⟩
        have HS := Lib.hid hS
        have HS2 := Lib.hid hS2
        clear hS hS2 c1
        have c2 := C2.out w2 hbe2
        go_wp2_with fail
        have e1 : (Q : Int) + 1 + 1 = ((Q + 2 : Nat) : Int) := by omega
        rw [e1]
        clear e1
        go_region_held3 (fun w' => w'.cell? ⟨b, o + k * 7 + 2, none⟩ = some (.string (markT (Q + 2))) ∧ Below w.heap.size w w') (first | exact HS.out _ (bdrewN (Below.refl _ _) 1) | exact HS2.out _ _ (by assumption) hb')
          (first | (go_at_call 31; refine (markText_any _ (Q + 2) (by omega)).mono ?_; rintro e w' ⟨rfl, hb'⟩))
        all_goals
          rename_i hfin
          obtain ⟨_, hbe3⟩ := hfin
          obtain ⟨w3, hw3⟩ := wname' hbe3
          subst hw3
          have c3 := C3.out w3 hbe3
          clear c2
          go_wp2_with fail
          have e1 : (Q : Int) + 2 + 1 = ((Q + 3 : Nat) : Int) := by omega
          rw [e1]
          clear e1 c3
          refine (heldStringS_any _ B _ _ _ (Q + 3) (HP.out w3 hbe3) (Nat.le_trans hB hbe3.size) (by omega) hpl).mono ?_
          rintro e w4 ⟨rfl, hb4⟩
          have hbe4 := hbe3.trans (hb4.mono hbe3.size)
          have c4 := C4.out w4 hbe4
          have c5 := C5.out w4 hbe4
          have c6 := C6.out w4 hbe4
          obtain ⟨R, hR⟩ : ∃ R, R = Q + 3 + l.parts.length := ⟨_, rfl⟩
          rw [show Q + 4 + l.parts.length = R + 1 from by omega] at c5
          rw [show Q + 5 + l.parts.length = R + 2 from by omega] at c6
          rw [← hR] at c4 ⊢
          have HR := Lib.hid hR
          have hRb : R ≤ 20000000 := by omega
          clear hR
          go_wp2_with fail
          go_roundw
          case rel => exact ⟨k + 1, R + 3, by omega, by go_num, by go_num, by show _ = _; have := HQ.out; have := HR.out; rw [HST.out]; omega, hbe4⟩
          case measure => simp [intOf] <;> omega
    · obtain rfl : k = n := by omega
      rw [List.take_of_length_le (by rw [HN.out]; exact Nat.le_refl _)] at HQ
      go_wp2_with fail
      go_ret
      exact ⟨ret_int (by rw [← HQ.out]), hbel⟩
end Go.Proofs.YtdlddkgmjpmenaaGreatDoor
