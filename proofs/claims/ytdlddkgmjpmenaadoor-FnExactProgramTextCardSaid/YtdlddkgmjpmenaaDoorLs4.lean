/-
  The language: the copies of programs that the laws make.
-/
import Derived.Test.YtdlddkgmjpmenaaDoorLs3
namespace Go.Proofs.YtdlddkgmjpmenaaDoor
open Go.RowKit
set_option linter.unusedVariables false
set_option linter.unusedSimpArgs false

/-- Texts that the call owns. -/
def OwnSt (B : Nat) (w : World) (ao : Option Addr) (n cap : Nat) (ss : List ByteArray) : Prop := ss.length = n ∧ n ≤ 1000000000 ∧ OwnC 9 1 B w ao n cap (ss.map Value.string)
def RetSt (ss : List ByteArray) (w : World) (e : Ending) (w' : World) : Prop := ∃ ao n cap, e = .returned (.slice ao n cap) ∧ OwnSt w.heap.size w' ao n cap ss ∧ Below w.heap.size w w'
section
variable {w w' : World} {B C : Nat} {ao : Option Addr} {n cap : Nat} {ss : List ByteArray}
theorem OwnSt.below (h : OwnSt B w ao n cap ss) (hb : Below C w w') (hC : w.heap.size ≤ C) : OwnSt B w' ao n cap ss := ⟨h.1, h.2.1, h.2.2.below hb hC⟩
theorem OwnSt.strs (h : OwnSt B w ao n cap ss) : Strs w w.heap.size ao n ss := ⟨h.1, h.2.1, h.2.2.cellsAt⟩
theorem OwnSt.up (h : OwnSt B w ao n cap ss) (hC : C ≤ B) : OwnSt C w ao n cap ss := ⟨h.1, h.2.1, h.2.2.up hC⟩
theorem OwnSt.le (h : OwnSt B w ao n cap ss) : n ≤ 1000000000 := h.2.1
theorem OwnSt.rowLt (h : OwnSt B w ao n cap ss) : ∀ k, rowOf ao cap = .some k → B ≤ k ∧ k < w.heap.size := h.2.2.rowLt
theorem OwnSt.nil (B : Nat) (w : World) (ao : Option Addr) : OwnSt B w ao 0 0 [] := ⟨rfl, by decide, OwnC.nil _ _ _ _ _⟩
theorem OwnSt.other {row : Option Nat} (h : OwnSt B w ao n cap ss) (hg : w.grownBy w' row) (hne : ∀ k l, rowOf ao cap = .some k → row = .some l → k ≠ l) : OwnSt B w' ao n cap ss := by
  refine ⟨h.1, h.2.1, h.2.2.kept hg fun g hao hc he => ?_⟩
  subst hao
  exact hne g g (by simp [rowOf, hc]) he rfl
theorem OwnSt.drewN (h : OwnSt B w ao n cap ss) (k : Nat) : OwnSt B (w.drewN k) ao n cap ss := h
end
theorem str_info : (Tryd.prog.info? 9).map (fun i => (i.zero, i.size, i.bytes)) = some (some (.string ⟨#[]⟩), 1, 16) := by kernel_rfl
theorem Line_info : (Tryd.prog.info? 36).map (fun i => (i.zero, i.size, i.bytes)) = some (some (.agg #[.int .i64 0, .string ⟨#[]⟩, .string ⟨#[]⟩, .slice none 0 0, .int .i64 0, .int .i64 0, .int .i64 0]), 7, 88) := by kernel_rfl
set_option maxHeartbeats 2000000 in
theorem toStringS_any (w : World) (ao : Option Addr) (n c : Nat) (ss : List ByteArray) (ha : Strs w w.heap.size ao n ss) (hn20 : n ≤ 1048576) :
    Calls Tryd.prog 23 #[.slice ao n c] w (RetSt ss w) := by
  have hn := ha.le
  obtain ⟨i0, hi, hz0, hz1, hz2⟩ := info_parts str_info
  have hlen := Lib.hid ha.1
  go_enter Tryd.func23, Tryd.ntmps23
  go_wp2_with (at_make; refine wpList_make_full _ rfl _ _ 31 rfl w.heap.size 9 i0 (.string ⟨#[]⟩) 1 Tryd.underlying31 hi hz0 hz1 _ _ _ _ n rfl rfl rfl rfl (by rw [hz2]; omega) (by unfold maxLen; omega) (Nat.le_refl _) ?_; intro w1 hown1 hg1)
  have hb1 : Below w.heap.size w w1 := (Below.refl _ _).grown hg1 (Nat.le_refl _) (by simp)
  obtain ⟨cs0, hown1⟩ : ∃ cs0, w1.ownsRow w.heap.size 9 1 (.slice (some ⟨w.heap.size, 0, none⟩) n n) n cs0 := ⟨_, hown1⟩
  have hl0 : cs0.length = n * 1 := hown1.1
  have HL := Lib.hid (show cs0.length = (ss.map Value.string).length by rw [List.length_map, hlen.out, hl0]; omega)
  clear hl0
  go_loopw [4] (fun i wr => ∃ k : Nat, k ≤ n ∧ i = .int .i64 k ∧ wr.ownsRow w.heap.size 9 1 (.slice (some ⟨w.heap.size, 0, none⟩) n n) n ((ss.map Value.string).take k ++ cs0.drop k) ∧ Below w.heap.size w wr) (fun i _ => n - (intOf i).toNat)
  case atStart => exact ⟨0, Nat.zero_le _, rfl, by simpa using hown1, hb1⟩
  case round =>
    obtain ⟨k, hk, rfl, hr, hbel⟩ := hrel
    by_cases hlt : k < n
    · obtain ⟨b1, o1, x, rfl, hbl, hx, hc1⟩ := ha.at hlt
      have g1 : wr.cell? ⟨b1, o1 + k, none⟩ = some (.string x) := (hbel.cell (by exact hbl)).trans hc1
      obtain ⟨u, hu⟩ : ∃ u, wr.cell? ⟨w.heap.size, k, none⟩ = some u := by
        rw [World.ownsRow.cellAt hr k (by omega)]
        refine ⟨_, List.getElem?_eq_getElem (by rw [hr.1]; omega)⟩
      have hf := World.ownsRow.frozenAt hr k
      have hst := World.ownsRow.stored hr k (.string x)
      rw [take_set HL.out (by rw [List.getElem?_map, hx]; rfl)] at hst
      clear hr hx
      go_wp2
      go_roundw
      case rel => exact ⟨k + 1, by omega, by go_num, hst.1, hbel.grown hst.2 (by have := hbel.size; omega) (by simp)⟩
      case measure => simp [intOf] <;> omega
    · obtain rfl : k = n := by omega
      go_wp2
      go_ret
      rw [List.take_of_length_le (by rw [List.length_map, hlen.out]; exact Nat.le_refl _), List.drop_of_length_le (by rw [HL.out, List.length_map, hlen.out]; exact Nat.le_refl _), List.append_nil] at hr
      exact ⟨_, _, _, rfl, ⟨hlen.out, hn, .inr ⟨_, rfl, hr⟩⟩, hbel⟩
theorem blk_set {w : World} {b : Nat} {cs : Array Value} {t : TypeId} (h : w.heap[b]? = some (.cells cs t (0, 0))) (o : Nat) (v : Value) : (w.setCell ⟨b, o, none⟩ v).heap[b]? = some (.cells (cs.setIfInBounds o v) t (0, 0)) := by
  rw [heap_setCell_same w b o _ _ v h]
theorem blk_other {w : World} {b b' : Nat} (hne : b ≠ b') (o : Nat) (v : Value) : (w.setCell ⟨b', o, none⟩ v).heap[b]? = w.heap[b]? :=
  heap_setCell_other w ⟨b', o, none⟩ b v hne
/-- Cells and freedom of a block. -/
theorem blk_at {w : World} {b : Nat} {cs : Array Value} {t : TypeId} (h : w.heap[b]? = some (.cells cs t (0, 0))) (o : Nat) : w.cell? ⟨b, o, none⟩ = cs[o]? ∧ w.frozen? ⟨b, o, none⟩ = false :=
  ⟨cell_of_row w b o cs t (0, 0) h, frozen_of_row w b o _ _ h⟩
def set7 (W : World) (rb off : Nat) (v0 v1 v2 v3 v4 v5 v6 : Value) : World :=
  ((((((W.setCell ⟨rb, off, none⟩ v0).setCell ⟨rb, off + 1, none⟩ v1).setCell ⟨rb, off + 2, none⟩ v2).setCell ⟨rb, off + 3, none⟩ v3).setCell ⟨rb, off + 4, none⟩ v4).setCell ⟨rb, off + 5, none⟩ v5).setCell ⟨rb, off + 6, none⟩ v6
theorem grown_setC (w : World) (a : Addr) (u : Value) : w.grownBy (w.setCell a u) (some a.block) :=
  ⟨rfl, rfl, rfl, by simp, fun k _ hk => heap_setCell_other w a k u (fun e => hk (by rw [e]))⟩
theorem grown_trans {a b c : World} {row : Option Nat} (h : a.grownBy b row) (k : b.grownBy c row) : a.grownBy c row :=
  ⟨k.os.trans h.os, k.tape.trans h.tape, k.output.trans h.output, Nat.le_trans h.size k.size, fun j hj hne => (k.block j (Nat.lt_of_lt_of_le hj h.size) hne).trans (h.block j hj hne)⟩
theorem set7_grown (W : World) (rb off : Nat) (v0 v1 v2 v3 v4 v5 v6 : Value) : W.grownBy (set7 W rb off v0 v1 v2 v3 v4 v5 v6) (some rb) :=
  grown_trans (grown_trans (grown_trans (grown_trans (grown_trans (grown_trans (grown_setC _ ⟨rb, _, none⟩ _) (grown_setC _ ⟨rb, _, none⟩ _)) (grown_setC _ ⟨rb, _, none⟩ _)) (grown_setC _ ⟨rb, _, none⟩ _)) (grown_setC _ ⟨rb, _, none⟩ _)) (grown_setC _ ⟨rb, _, none⟩ _)) (grown_setC _ ⟨rb, _, none⟩ _)
theorem stored7 {W : World} {rb : Nat} {a b c d e f g : Value} {t : TypeId} (h : W.heap[rb]? = some (.cells #[a, b, c, d, e, f, g] t (0, 0))) (v0 v1 v2 v3 v4 v5 v6 : Value) :
    (set7 W rb 0 v0 v1 v2 v3 v4 v5 v6).heap[rb]? = some (.cells #[v0, v1, v2, v3, v4, v5, v6] t (0, 0)) := by
  have q := blk_set (blk_set (blk_set (blk_set (blk_set (blk_set (blk_set h 0 v0) 1 v1) 2 v2) 3 v3) 4 v4) 5 v5) 6 v6
  simp at q
  simpa [set7] using q
/-- What the copy of a line is. -/
def RetLn (l : Ln) (w : World) (e : Ending) (w' : World) : Prop := ∃ po pc, e = .returned (lineV l po pc) ∧ OwnSt w.heap.size w' po l.parts.length pc l.parts ∧ Below w.heap.size w w'
set_option maxHeartbeats 8000000 in
set_option maxRecDepth 100000 in
theorem toLine_any (w : World) (l : Ln) (pa : Option Addr) (pc : Nat) (hps : Strs w w.heap.size pa l.parts.length l.parts) (hn20 : l.parts.length ≤ 1048576) :
    Calls Tryd.prog 12 #[lineV l pa pc] w (RetLn l w) := by
  obtain ⟨V1, hV1⟩ : ∃ V1, V1 = w.alloc (.cells #[.int .i64 l.kind, .string l.name, .string l.op, .slice pa l.parts.length pc, .int .i64 l.party, .int .i64 l.width, .int .i64 l.value] 33) := ⟨_, rfl⟩
  have n1 : V1.heap[w.heap.size]? = some (.cells #[.int .i64 l.kind, .string l.name, .string l.op, .slice pa l.parts.length pc, .int .i64 l.party, .int .i64 l.width, .int .i64 l.value] 33 (0, 0)) := by rw [hV1]; exact heap_alloc_new _ _
  have b1 : Below w.heap.size w V1 := by rw [hV1]; exact (Below.refl _ _).alloc (Nat.le_refl _) _
  have z1 : V1.heap.size = w.heap.size + 1 := by rw [hV1]; simp
  have HV1 := Lib.hid hV1
  clear hV1
  obtain ⟨V2, hV2⟩ : ∃ V2, V2 = V1.alloc (.cells #[.int .i64 0, .string ⟨#[]⟩, .string ⟨#[]⟩, .slice none 0 0, .int .i64 0, .int .i64 0, .int .i64 0] 36) := ⟨_, rfl⟩
  have n2 : V2.heap[V1.heap.size]? = some (.cells #[.int .i64 0, .string ⟨#[]⟩, .string ⟨#[]⟩, .slice none 0 0, .int .i64 0, .int .i64 0, .int .i64 0] 36 (0, 0)) := by rw [hV2]; exact heap_alloc_new _ _
  have b2 : Below V1.heap.size V1 V2 := by rw [hV2]; exact (Below.refl _ _).alloc (Nat.le_refl _) _
  have z2 : V2.heap.size = V1.heap.size + 1 := by rw [hV2]; simp
  have HV2 := Lib.hid hV2
  clear hV2
  obtain ⟨V3, hV3⟩ : ∃ V3, V3 = V2.alloc (.cells #[.int .i64 l.kind, .string l.name, .string l.op, .slice none 0 0, .int .i64 0, .int .i64 0, .int .i64 0] 36) := ⟨_, rfl⟩
  have n3 : V3.heap[V2.heap.size]? = some (.cells #[.int .i64 l.kind, .string l.name, .string l.op, .slice none 0 0, .int .i64 0, .int .i64 0, .int .i64 0] 36 (0, 0)) := by rw [hV3]; exact heap_alloc_new _ _
  have b3 : Below V2.heap.size V2 V3 := by rw [hV3]; exact (Below.refl _ _).alloc (Nat.le_refl _) _
  have z3 : V3.heap.size = V2.heap.size + 1 := by rw [hV3]; simp
  have HV3 := Lib.hid hV3
  clear hV3
  have k1a := blk_at ((b2.block _ (by omega)).trans n1)
  have e0 := (k1a 0).1
  have e1 := (k1a 1).1
  have e2 := (k1a 2).1
  have e3 := (k1a 3).1
  simp at e0 e1 e2 e3
  clear k1a
  have k1 := (b3.block _ (by omega)).trans ((b2.block _ (by omega)).trans n1)
  have k2 := (b3.block _ (by omega)).trans n2
  have k3 := n3
  rw [z2, z1] at k3
  rw [z1] at k2
  have hB : Below w.heap.size w V3 := b1.trans ((b2.trans (b3.mono (by omega))).mono (by omega))
  have hZ : V3.heap.size = w.heap.size + 3 := by omega
  have HPS := Lib.hid ((hps.below hB (Nat.le_refl _)).up hB.size)
  clear n1 n2 n3 b1 b2 b3 z3 hps
  unfold lineV
  go_enter Tryd.func12, Tryd.ntmps12
  go_wp2_with (first | rw [← HV1.out] | rw [← HV2.out])
  rw [← HV3.out]
  refine (toStringS_any _ _ _ _ _ HPS.out hn20).mono ?_
  rintro e w2 ⟨po, n, qc, rfl, ho, hb⟩
  obtain rfl : n = l.parts.length := ho.1.symm
  clear e0 e1 e2 e3
  replace k1 := (hb.block _ (by omega)).trans k1
  replace k2 := (hb.block _ (by omega)).trans k2
  replace k3 := (hb.block _ (by omega)).trans k3
  have hB2 := hB.trans (hb.mono hB.size)
  have hZ2 := hb.size
  have hrl := ho.rowLt
  have ho' : OwnSt (w.heap.size + 3) w2 po l.parts.length qc l.parts := ho.up (by omega)
  have HO := Lib.hid ho'
  have HB2 := Lib.hid hB2
  have HZ2 := Lib.hid hZ2
  have HZ := Lib.hid hZ
  have x3 := (blk_at k3 3).1
  have y3 := (blk_at k3 3).2
  simp at x3
  obtain ⟨U3, hU3⟩ : ∃ U3, U3 = w2.setCell ⟨w.heap.size + 1 + 1, 3, none⟩ (.slice po l.parts.length qc) := ⟨_, rfl⟩
  have q3 := blk_set k3 3 (.slice po l.parts.length qc)
  have q1 := (blk_other (b := w.heap.size) (b' := w.heap.size + 1 + 1) (w := w2) (by omega) 3 (.slice po l.parts.length qc)).trans k1
  have q2 := (blk_other (b := w.heap.size + 1) (b' := w.heap.size + 1 + 1) (w := w2) (by omega) 3 (.slice po l.parts.length qc)).trans k2
  have G3 : w2.grownBy U3 (some (w.heap.size + 1 + 1)) := by rw [hU3]; exact grown_setC _ ⟨_, _, none⟩ _
  simp at q3
  rw [← hU3] at q1 q2 q3
  have HU3 := Lib.hid hU3
  clear hU3 k1 k2 k3
  have x4 := (blk_at q3 4).1
  have y4 := (blk_at q3 4).2
  have e4 := (blk_at q1 4).1
  simp at x4 e4
  obtain ⟨U4, hU4⟩ : ∃ U4, U4 = U3.setCell ⟨w.heap.size + 1 + 1, 4, none⟩ (.int .i64 l.party) := ⟨_, rfl⟩
  have r3 := blk_set q3 4 (.int .i64 l.party)
  have r1 := (blk_other (b := w.heap.size) (b' := w.heap.size + 1 + 1) (w := U3) (by omega) 4 (.int .i64 l.party)).trans q1
  have r2 := (blk_other (b := w.heap.size + 1) (b' := w.heap.size + 1 + 1) (w := U3) (by omega) 4 (.int .i64 l.party)).trans q2
  have G4 : U3.grownBy U4 (some (w.heap.size + 1 + 1)) := by rw [hU4]; exact grown_setC _ ⟨_, _, none⟩ _
  simp at r3
  rw [← hU4] at r1 r2 r3
  have HU4 := Lib.hid hU4
  clear hU4 q1 q2 q3
  have x5 := (blk_at r3 5).1
  have y5 := (blk_at r3 5).2
  have e5 := (blk_at r1 5).1
  simp at x5 e5
  obtain ⟨U5, hU5⟩ : ∃ U5, U5 = U4.setCell ⟨w.heap.size + 1 + 1, 5, none⟩ (.int .i64 l.width) := ⟨_, rfl⟩
  have s3 := blk_set r3 5 (.int .i64 l.width)
  have s1 := (blk_other (b := w.heap.size) (b' := w.heap.size + 1 + 1) (w := U4) (by omega) 5 (.int .i64 l.width)).trans r1
  have s2 := (blk_other (b := w.heap.size + 1) (b' := w.heap.size + 1 + 1) (w := U4) (by omega) 5 (.int .i64 l.width)).trans r2
  have G5 : U4.grownBy U5 (some (w.heap.size + 1 + 1)) := by rw [hU5]; exact grown_setC _ ⟨_, _, none⟩ _
  simp at s3
  rw [← hU5] at s1 s2 s3
  have HU5 := Lib.hid hU5
  clear hU5 r1 r2 r3
  have x6 := (blk_at s3 6).1
  have y6 := (blk_at s3 6).2
  have e6 := (blk_at s1 6).1
  simp at x6 e6
  obtain ⟨U6, hU6⟩ : ∃ U6, U6 = U5.setCell ⟨w.heap.size + 1 + 1, 6, none⟩ (.int .i64 l.value) := ⟨_, rfl⟩
  have t3 := blk_set s3 6 (.int .i64 l.value)
  have t2 := (blk_other (b := w.heap.size + 1) (b' := w.heap.size + 1 + 1) (w := U5) (by omega) 6 (.int .i64 l.value)).trans s2
  have G6 : U5.grownBy U6 (some (w.heap.size + 1 + 1)) := by rw [hU6]; exact grown_setC _ ⟨_, _, none⟩ _
  simp at t3
  rw [← hU6] at t2 t3
  have HU6 := Lib.hid hU6
  clear hU6 s1 s2 s3
  have G := Lib.hid (grown_trans (grown_trans (grown_trans G3 G4) G5) G6)
  clear G3 G4 G5 G6
  have c0 := (blk_at t3 0).1
  have c1 := (blk_at t3 1).1
  have c2 := (blk_at t3 2).1
  have c3 := (blk_at t3 3).1
  have c4 := (blk_at t3 4).1
  have c5 := (blk_at t3 5).1
  have c6 := (blk_at t3 6).1
  have d0 := (blk_at t2 0).1
  have d1 := (blk_at t2 1).1
  have d2 := (blk_at t2 2).1
  have d3 := (blk_at t2 3).1
  have d4 := (blk_at t2 4).1
  have d5 := (blk_at t2 5).1
  have d6 := (blk_at t2 6).1
  have f0 := (blk_at t2 0).2
  have f1 := (blk_at t2 1).2
  have f2 := (blk_at t2 2).2
  have f3 := (blk_at t2 3).2
  have f4 := (blk_at t2 4).2
  have f5 := (blk_at t2 5).2
  have f6 := (blk_at t2 6).2
  simp at c0 c1 c2 c3 c4 c5 c6 d0 d1 d2 d3 d4 d5 d6
  have HT2 := Lib.hid t2
  clear t2 t3 hZ2 hZ hB2 hB ho ho' hrl hb
  go_wp2_with (first | rw [← HU3.out] | rw [← HU4.out] | rw [← HU5.out] | rw [← HU6.out])
  have q := stored7 HT2.out (.int .i64 l.kind) (.string l.name) (.string l.op) (.slice po l.parts.length qc) (.int .i64 l.party) (.int .i64 l.width) (.int .i64 l.value)
  have g7 := set7_grown U6 (w.heap.size + 1) 0 (.int .i64 l.kind) (.string l.name) (.string l.op) (.slice po l.parts.length qc) (.int .i64 l.party) (.int .i64 l.width) (.int .i64 l.value)
  have j0 := (blk_at q 0).1
  have j1 := (blk_at q 1).1
  have j2 := (blk_at q 2).1
  have j3 := (blk_at q 3).1
  have j4 := (blk_at q 4).1
  have j5 := (blk_at q 5).1
  have j6 := (blk_at q 6).1
  simp only [set7, Nat.zero_add] at j0 j1 j2 j3 j4 j5 j6
  simp at j0 j1 j2 j3 j4 j5 j6
  have hz := HZ.out
  have hz2 := HZ2.out
  have hr := HO.out.rowLt
  have o6 := HO.out.other G.out (fun p q hp hq => by have := hr p hp; simp at hq; omega)
  have o7 := o6.other g7 (fun p q hp hq => by have := hr p hp; simp at hq; omega)
  have hbA := HB2.out.grown G.out HB2.out.size (fun k hk => by simp at hk; omega)
  have hb9 := hbA.grown g7 hbA.size (fun k hk => by simp at hk; omega)
  exact bodyPost_ret (v := lineV l po qc) (by simp [results, Tryd.results12, lineV, go_sem, j0, j1, j2, j3, j4, j5, j6]) rfl ⟨po, qc, rfl, o7.up (by omega), hb9⟩
end Go.Proofs.YtdlddkgmjpmenaaDoor
