/-
  The language: the copies of programs that the laws make: all lines.
-/
import Derived.Test.YtdlddkgmjpmenaaDoorLs4
namespace Go.Proofs.YtdlddkgmjpmenaaDoor
open Go.RowKit
set_option linter.unusedVariables false
set_option linter.unusedSimpArgs false

def PartsOK (g : Nat) (w : World) (ls : List Ln) (hs : List (Option Addr × Nat)) : Prop := ∀ (k : Nat) (l : Ln) (h : Option Addr × Nat), ls[k]? = some l → hs[k]? = some h → OwnSt (g + 1) w h.1 l.parts.length h.2 l.parts
/-- A program that the call owns: its lines lie in block g, its parts behind it. -/
def OwnL (g : Nat) (w : World) (n : Nat) (ls : List Ln) : Prop := ls.length = n ∧ n ≤ 1000000000 ∧ g < w.heap.size ∧ ∃ hs : List (Option Addr × Nat), hs.length = n ∧ w.ownsRow g 36 7 (.slice (some ⟨g, 0, none⟩) n n) n (linesCells ls hs) ∧ PartsOK g w ls hs
def RetL (ls : List Ln) (w : World) (e : Ending) (w' : World) : Prop := e = .returned (.slice (some ⟨w.heap.size, 0, none⟩) ls.length ls.length) ∧ OwnL w.heap.size w' ls.length ls ∧ Below w.heap.size w w'
theorem PartsOK.below {g C : Nat} {w w' : World} {ls : List Ln} {hs : List (Option Addr × Nat)} (h : PartsOK g w ls hs) (hb : Below C w w') (hC : w.heap.size ≤ C) : PartsOK g w' ls hs :=
  fun k l x a b => (h k l x a b).below hb hC
theorem OwnL.below {g C : Nat} {w w' : World} {n : Nat} {ls : List Ln} (h : OwnL g w n ls) (hb : Below C w w') (hC : w.heap.size ≤ C) : OwnL g w' n ls := by
  obtain ⟨h1, h2, h3, hs, h4, h5, h6⟩ := h
  exact ⟨h1, h2, Nat.lt_of_lt_of_le h3 hb.size, hs, h4, ownsRow_below h5 hb hC, h6.below hb hC⟩
theorem OwnL.lns {g : Nat} {w : World} {n : Nat} {ls : List Ln} (h : OwnL g w n ls) : Lns w w.heap.size (some ⟨g, 0, none⟩) n ls := by
  obtain ⟨h1, h2, h3, hs, h4, h5, h6⟩ := h
  refine ⟨h1, h2, hs, h4, .inr ⟨g, 0, rfl, h3, fun j u hu => ?_⟩, fun k l x a b => (h6 k l x a b).strs⟩
  have hj : j < (linesCells ls hs).length := (List.getElem?_eq_some_iff.1 hu).1
  rw [Nat.zero_add, World.ownsRow.cellAt h5 j (by rw [← h5.1]; exact hj)]
  exact hu
theorem linesCells_length : ∀ (ls : List Ln) (hs : List (Option Addr × Nat)), ls.length = hs.length → (linesCells ls hs).length = ls.length * 7
  | [], [], _ => rfl
  | [], _ :: _, h => by simp at h
  | _ :: _, [], h => by simp at h
  | l :: ls, h :: hs, e => by
    rw [linesCells, List.length_append, linesCells_length ls hs (by simpa using e), List.length_cons]
    show 7 + _ = _
    omega
theorem linesCells_snoc : ∀ (ls : List Ln) (hs : List (Option Addr × Nat)) (l : Ln) (h : Option Addr × Nat), ls.length = hs.length → linesCells (ls ++ [l]) (hs ++ [h]) = linesCells ls hs ++ lineCells l h
  | [], [], l, h, _ => by simp [linesCells]
  | [], _ :: _, _, _, h => by simp at h
  | _ :: _, [], _, _, h => by simp at h
  | x :: ls, y :: hs, l, h, e => by
    rw [List.cons_append, List.cons_append, linesCells, linesCells, linesCells_snoc ls hs l h (by simpa using e), List.append_assoc]
theorem set_seven {α : Type} (P D : List α) (off : Nat) (hP : P.length = off) (hD : 7 ≤ D.length) (v0 v1 v2 v3 v4 v5 v6 : α) :
    (((((((P ++ D).set off v0).set (off + 1) v1).set (off + 2) v2).set (off + 3) v3).set (off + 4) v4).set (off + 5) v5).set (off + 6) v6 = P ++ [v0, v1, v2, v3, v4, v5, v6] ++ D.drop 7 := by
  subst hP
  match D, hD with
  | a :: b :: c :: d :: e :: f :: g :: D, _ =>
    simp only [List.set_append_right _ _ (Nat.le_refl _), List.set_append_right _ _ (Nat.le_add_right _ _), Nat.sub_self, Nat.add_sub_cancel_left]
    simp
  | [], h => simp at h
  | [_], h => simp at h
  | [_, _], h => simp at h
  | [_, _, _], h => simp at h
  | [_, _, _, _], h => simp at h
  | [_, _, _, _, _], h => simp at h
  | [_, _, _, _, _, _], h => simp at h
theorem stored_seven {B g n cap : Nat} {w : World} {e : TypeId} {cs : List Value} (h : w.ownsRow B e 7 (.slice (some ⟨g, 0, none⟩) n cap) n cs) (off : Nat) (v0 v1 v2 v3 v4 v5 v6 : Value) :
    (set7 w g off v0 v1 v2 v3 v4 v5 v6).ownsRow B e 7 (.slice (some ⟨g, 0, none⟩) n cap) n (((((((cs.set off v0).set (off + 1) v1).set (off + 2) v2).set (off + 3) v3).set (off + 4) v4).set (off + 5) v5).set (off + 6) v6) :=
  (World.ownsRow.stored (World.ownsRow.stored (World.ownsRow.stored (World.ownsRow.stored (World.ownsRow.stored (World.ownsRow.stored (World.ownsRow.stored h off v0).1 (off + 1) v1).1 (off + 2) v2).1 (off + 3) v3).1 (off + 4) v4).1 (off + 5) v5).1 (off + 6) v6).1
theorem PartsOK.grown {g : Nat} {w w' : World} {ls : List Ln} {hs : List (Option Addr × Nat)} (h : PartsOK g w ls hs) (hg : w.grownBy w' (some g)) : PartsOK g w' ls hs :=
  fun k l x a b => (h k l x a b).other hg fun p q hp hq => by have := (h k l x a b).rowLt p hp; simp at hq; omega
theorem PartsOK.snoc {g : Nat} {w : World} {ls : List Ln} {hs : List (Option Addr × Nat)} {l : Ln} {x : Option Addr × Nat} (h : PartsOK g w ls hs) (hl : ls.length = hs.length) (hx : OwnSt (g + 1) w x.1 l.parts.length x.2 l.parts) : PartsOK g w (ls ++ [l]) (hs ++ [x]) := by
  intro k y z a b
  by_cases hk : k < ls.length
  · rw [List.getElem?_append_left hk] at a
    rw [List.getElem?_append_left (by omega)] at b
    exact h k y z a b
  · rw [List.getElem?_append_right (by omega)] at a
    rw [List.getElem?_append_right (by omega), ← hl] at b
    rcases Nat.eq_zero_or_pos (k - ls.length) with h0 | h0
    · rw [h0] at a b
      simp at a b
      subst a
      subst b
      exact hx
    · rw [List.getElem?_eq_none (by simp; omega)] at a
      cases a
set_option maxHeartbeats 8000000 in
set_option maxRecDepth 20000 in
theorem toLineS_any (w : World) (ao : Option Addr) (n c : Nat) (ls : List Ln) (ha : Lns w w.heap.size ao n ls) (hs : okS ls) (hn20 : n ≤ 1048576) :
    Calls Tryd.prog 6 #[.slice ao n c] w (RetL ls w) := by
  have hn := ha.le
  obtain ⟨i0, hi, hz0, hz1, hz2⟩ := info_parts Line_info
  obtain rfl : ls.length = n := ha.1
  have HSZ := Lib.hid hs
  clear hs
  go_enter Tryd.func6, Tryd.ntmps6
  go_wp2_with (at_make; refine wpList_make_full _ rfl _ _ 26 rfl w.heap.size 36 i0 (.agg #[.int .i64 0, .string ⟨#[]⟩, .string ⟨#[]⟩, .slice none 0 0, .int .i64 0, .int .i64 0, .int .i64 0]) 7 Tryd.underlying26 hi hz0 hz1 _ _ _ _ ls.length rfl rfl rfl rfl (by rw [hz2]; omega) (by unfold maxLen; omega) (Nat.le_refl _) ?_; intro w1 hown1 hg1)
  have hb1 : Below w.heap.size w w1 := (Below.refl _ _).grown hg1 (Nat.le_refl _) (by simp)
  obtain ⟨cs0, hown1⟩ : ∃ cs0, w1.ownsRow w.heap.size 36 7 (.slice (some ⟨w.heap.size, 0, none⟩) ls.length ls.length) ls.length cs0 := ⟨_, hown1⟩
  have hl0 : cs0.length = ls.length * 7 := hown1.1
  have HL := Lib.hid hl0
  clear hl0
  have hgl : w.heap.size < w1.heap.size := by
    rcases hown1.2 with ⟨h0, _⟩ | ⟨g', cap', cur, hv, _, hb, _⟩
    · cases h0
    · cases hv
      exact (Array.getElem?_eq_some_iff.1 hb).1
  go_loopw [4] (fun i wr => ∃ (k : Nat) (hs : List (Option Addr × Nat)), k ≤ ls.length ∧ i = .int .i64 k ∧ hs.length = k ∧ wr.ownsRow w.heap.size 36 7 (.slice (some ⟨w.heap.size, 0, none⟩) ls.length ls.length) ls.length (linesCells (ls.take k) hs ++ cs0.drop (k * 7)) ∧ PartsOK w.heap.size wr (ls.take k) hs ∧ Below w.heap.size w wr ∧ w.heap.size < wr.heap.size) (fun i _ => ls.length - (intOf i).toNat)
  case atStart => exact ⟨0, [], Nat.zero_le _, rfl, rfl, by simpa [linesCells] using hown1, fun k l h a => by simp at a, hb1, hgl⟩
  case round =>
    obtain ⟨k, hs, hk, rfl, hsl, hr, hpo, hbel, hgr⟩ := hrel
    by_cases hlt : k < ls.length
    · obtain ⟨b1, o1, l, pa, pc, rfl, hbl, hx, hps, g0, g1, g2, g3, g4, g5, g6⟩ := (ha.below hbel (Nat.le_refl _)).at hlt
      have hpl := (okS_at HSZ.out hx).2.2
      have HX := Lib.hid hx
      have HR := Lib.hid hr
      have HPO := Lib.hid hpo
      clear hr hpo hx
      go_wp2_with fail
      refine (toLine_any _ l _ _ (hps.up hbel.size) hpl).mono ?_
      rintro e w2 ⟨po, qc, rfl, hop, hb2⟩
      have hr2 := ownsRow_below HR.out hb2 (Nat.le_refl _)
      have hpo2 := HPO.out.below hb2 (Nat.le_refl _)
      have ht := there_of_row hr2 hlt
      obtain ⟨s0, f0⟩ := ht 0 (by decide)
      obtain ⟨v0, s0⟩ := Option.isSome_iff_exists.1 s0
      obtain ⟨s1, f1⟩ := ht 1 (by decide)
      obtain ⟨v1, s1⟩ := Option.isSome_iff_exists.1 s1
      obtain ⟨s2, f2⟩ := ht 2 (by decide)
      obtain ⟨v2, s2⟩ := Option.isSome_iff_exists.1 s2
      obtain ⟨s3, f3⟩ := ht 3 (by decide)
      obtain ⟨v3, s3⟩ := Option.isSome_iff_exists.1 s3
      obtain ⟨s4, f4⟩ := ht 4 (by decide)
      obtain ⟨v4, s4⟩ := Option.isSome_iff_exists.1 s4
      obtain ⟨s5, f5⟩ := ht 5 (by decide)
      obtain ⟨v5, s5⟩ := Option.isSome_iff_exists.1 s5
      obtain ⟨s6, f6⟩ := ht 6 (by decide)
      obtain ⟨v6, s6⟩ := Option.isSome_iff_exists.1 s6
      simp only [Nat.add_zero] at s0 f0
      have HR2 := Lib.hid hr2
      have HPO2 := Lib.hid hpo2
      have HOP := Lib.hid hop
      clear hr2 ht hpo2 hop
      unfold lineV
      go_wp2_with fail
      go_roundw
      case rel =>
        have hB2 : Below w.heap.size w w2 := hbel.trans (hb2.mono hbel.size)
        have hlk : (ls.take k).length = hs.length := by simp; omega
        have q := stored_seven HR2.out (k * 7) (.int .i64 l.kind) (.string l.name) (.string l.op) (.slice po l.parts.length qc) (.int .i64 l.party) (.int .i64 l.width) (.int .i64 l.value)
        rw [set_seven _ _ (k * 7) (by rw [linesCells_length _ _ hlk]; simp; omega) (by rw [List.length_drop, HL.out]; omega), List.drop_drop, show linesCells (ls.take k) hs ++ [Value.int .i64 l.kind, .string l.name, .string l.op, .slice po l.parts.length qc, .int .i64 l.party, .int .i64 l.width, .int .i64 l.value] = linesCells (ls.take (k + 1)) (hs ++ [(po, qc)]) from by rw [List.take_add_one, HX.out, Option.toList_some, linesCells_snoc _ _ _ _ hlk]; rfl, show k * 7 + 7 = (k + 1) * 7 from by omega] at q
        have g7 := set7_grown w2 w.heap.size (k * 7) (.int .i64 l.kind) (.string l.name) (.string l.op) (.slice po l.parts.length qc) (.int .i64 l.party) (.int .i64 l.width) (.int .i64 l.value)
        have hp7 : PartsOK w.heap.size (set7 w2 w.heap.size (k * 7) (.int .i64 l.kind) (.string l.name) (.string l.op) (.slice po l.parts.length qc) (.int .i64 l.party) (.int .i64 l.width) (.int .i64 l.value)) (ls.take (k + 1)) (hs ++ [(po, qc)]) := by
          rw [List.take_add_one, HX.out, Option.toList_some]
          exact (PartsOK.snoc (x := (po, qc)) HPO2.out hlk (HOP.out.up (by omega))).grown g7
        have p7 := hB2.grown g7 hB2.size (by simp)
        exact ⟨k + 1, hs ++ [(po, qc)], by omega, by go_num, by simp [hsl], q, hp7, p7, Nat.lt_of_lt_of_le hgr (Nat.le_trans hb2.size g7.size)⟩
      case measure => simp [intOf] <;> omega
    · obtain rfl : k = ls.length := by omega
      go_wp2_with fail
      go_ret
      rw [List.take_length] at hr hpo
      rw [List.drop_of_length_le (by rw [HL.out]; exact Nat.le_refl _), List.append_nil] at hr
      exact ⟨rfl, ⟨rfl, hn, hgr, hs, hsl, hr, hpo⟩, hbel⟩
end Go.Proofs.YtdlddkgmjpmenaaDoor
