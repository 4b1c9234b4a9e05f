/-
  The language: programs in memory; the reference's small functions.
-/
import Derived.Test.YtdlddkgmjpmenaaGreatDoorLa2
import Derived.Test.YtdlddkgmjpmenaaGreatDoorAll
import Derived.Deep.Strs
namespace Go.Proofs.YtdlddkgmjpmenaaGreatDoor
open Go.RowKit
set_option linter.unusedVariables false
set_option linter.unusedSimpArgs false

/-- A slice of texts. -/
def Strs (w : World) (B : Nat) (ao : Option Addr) (n : Nat) (ss : List ByteArray) : Prop := ss.length = n ∧ n ≤ 1000000000 ∧ CellsAt w B ao (ss.map Value.string)
/-- The cells of a line whose parts lie at h. -/
def lineCells (l : Ln) (h : Option Addr × Nat) : List Value := [.int .i64 l.kind, .string l.name, .string l.op, .slice h.1 l.parts.length h.2, .int .i64 l.party, .int .i64 l.width, .int .i64 l.value]
def linesCells : List Ln → List (Option Addr × Nat) → List Value
  | l :: ls, h :: hs => lineCells l h ++ linesCells ls hs
  | _, _ => []
/-- A slice of lines. -/
def Lns (w : World) (B : Nat) (ao : Option Addr) (n : Nat) (ls : List Ln) : Prop :=
  ls.length = n ∧ n ≤ 1000000000 ∧ ∃ hs : List (Option Addr × Nat), hs.length = n ∧ CellsAt w B ao (linesCells ls hs) ∧ ∀ (k : Nat) (l : Ln) (h : Option Addr × Nat), ls[k]? = some l → hs[k]? = some h → Strs w B h.1 l.parts.length l.parts
section
variable {w w' : World} {B C : Nat} {ao : Option Addr} {n : Nat} {ss : List ByteArray} {ls : List Ln}
theorem Strs.below (h : Strs w B ao n ss) (hb : Below C w w') (hC : B ≤ C) : Strs w' B ao n ss := ⟨h.1, h.2.1, h.2.2.below hb hC⟩
theorem Strs.up (h : Strs w B ao n ss) (hC : B ≤ C) : Strs w C ao n ss := ⟨h.1, h.2.1, h.2.2.up hC⟩
theorem Strs.le (h : Strs w B ao n ss) : n ≤ 1000000000 := h.2.1
theorem Strs.at (h : Strs w B ao n ss) {k : Nat} (hk : k < n) : ∃ b off x, ao = some ⟨b, off, none⟩ ∧ b < B ∧ ss[k]? = some x ∧ w.cell? ⟨b, off + k, none⟩ = some (.string x) := by
  obtain ⟨rfl, _, h⟩ := h
  rcases h with h | ⟨b, off, rfl, hlt, h⟩
  · simp at h; subst h; simp at hk
  · exact ⟨b, off, ss[k], rfl, hlt, by simp [hk], h k _ (by simp [hk])⟩
theorem Lns.below (h : Lns w B ao n ls) (hb : Below C w w') (hC : B ≤ C) : Lns w' B ao n ls := by
  obtain ⟨h1, h2, hs, h3, h4, h5⟩ := h
  exact ⟨h1, h2, hs, h3, h4.below hb hC, fun k l x a b => (h5 k l x a b).below hb hC⟩
theorem Lns.up (h : Lns w B ao n ls) (hC : B ≤ C) : Lns w C ao n ls := by
  obtain ⟨h1, h2, hs, h3, h4, h5⟩ := h
  exact ⟨h1, h2, hs, h3, h4.up hC, fun k l x a b => (h5 k l x a b).up hC⟩
theorem Lns.le (h : Lns w B ao n ls) : n ≤ 1000000000 := h.2.1
theorem Lns.drewN (h : Lns w B ao n ls) (k : Nat) : Lns (w.drewN k) B ao n ls := h
theorem Strs.drewN (h : Strs w B ao n ss) (k : Nat) : Strs (w.drewN k) B ao n ss := h
end
theorem linesCells_at : ∀ (ls : List Ln) (hs : List (Option Addr × Nat)) (k : Nat) (l : Ln) (h : Option Addr × Nat), ls[k]? = some l → hs[k]? = some h → ∀ (j : Nat) (v : Value), (lineCells l h)[j]? = some v → (linesCells ls hs)[k * 7 + j]? = some v
  | [], _, k, l, h, e, _, _, _, _ => by simp at e
  | _ :: _, [], k, l, h, _, e, _, _, _ => by simp at e
  | l0 :: ls, h0 :: hs, 0, l, h, e1, e2, j, v, e3 => by
    simp at e1 e2
    subst e1
    subst e2
    have hj : j < (lineCells l0 h0).length := (List.getElem?_eq_some_iff.1 e3).1
    rw [linesCells, Nat.zero_mul, Nat.zero_add, List.getElem?_append_left hj, e3]
  | l0 :: ls, h0 :: hs, k + 1, l, h, e1, e2, j, v, e3 => by
    rw [linesCells, List.getElem?_append_right (by simp [lineCells]; omega)]
    rw [show (k + 1) * 7 + j - (lineCells l0 h0).length = k * 7 + j from by simp [lineCells]; omega]
    exact linesCells_at ls hs k l h (by simpa using e1) (by simpa using e2) j v e3
/-- The cells of line k. -/
theorem Lns.at {w : World} {B : Nat} {ao : Option Addr} {n : Nat} {ls : List Ln} (h : Lns w B ao n ls) {k : Nat} (hk : k < n) :
    ∃ b o l pa pc, ao = some ⟨b, o, none⟩ ∧ b < B ∧ ls[k]? = some l ∧ Strs w B pa l.parts.length l.parts ∧
      w.cell? ⟨b, o + k * 7, none⟩ = some (.int .i64 l.kind) ∧ w.cell? ⟨b, o + k * 7 + 1, none⟩ = some (.string l.name) ∧ w.cell? ⟨b, o + k * 7 + 2, none⟩ = some (.string l.op) ∧ w.cell? ⟨b, o + k * 7 + 3, none⟩ = some (.slice pa l.parts.length pc) ∧
      w.cell? ⟨b, o + k * 7 + 4, none⟩ = some (.int .i64 l.party) ∧ w.cell? ⟨b, o + k * 7 + 5, none⟩ = some (.int .i64 l.width) ∧ w.cell? ⟨b, o + k * 7 + 6, none⟩ = some (.int .i64 l.value) := by
  obtain ⟨rfl, _, hs, h3, h4, h5⟩ := h
  have e1 : ls[k]? = some ls[k] := by simp
  obtain ⟨h0, e2⟩ : ∃ h0, hs[k]? = some h0 := ⟨hs[k]'(by omega), by simp⟩
  have e3 := fun j v => linesCells_at ls hs k _ _ e1 e2 j v
  rcases h4 with h4 | ⟨b, o, rfl, hb, h4⟩
  · have := e3 0 (.int .i64 ls[k].kind) rfl
    rw [h4] at this
    simp at this
  · refine ⟨b, o, ls[k], h0.1, h0.2, rfl, hb, e1, h5 k _ _ e1 e2, ?_, ?_, ?_, ?_, ?_, ?_, ?_⟩
    · have := h4 _ _ (e3 0 _ rfl); simpa using this
    · have := h4 _ _ (e3 1 _ rfl); rwa [← Nat.add_assoc] at this
    · have := h4 _ _ (e3 2 _ rfl); rwa [← Nat.add_assoc] at this
    · have := h4 _ _ (e3 3 _ rfl); rwa [← Nat.add_assoc] at this
    · have := h4 _ _ (e3 4 _ rfl); rwa [← Nat.add_assoc] at this
    · have := h4 _ _ (e3 5 _ rfl); rwa [← Nat.add_assoc] at this
    · have := h4 _ _ (e3 6 _ rfl); rwa [← Nat.add_assoc] at this
theorem linesCells_take : ∀ (ls : List Ln) (hs : List (Option Addr × Nat)) (k : Nat), ls.length = hs.length → linesCells (ls.take k) (hs.take k) = (linesCells ls hs).take (k * 7)
  | [], [], k, _ => by simp [linesCells]
  | [], _ :: _, _, h => by simp at h
  | _ :: _, [], _, h => by simp at h
  | l :: ls, h :: hs, 0, _ => by simp [linesCells]
  | l :: ls, h :: hs, k + 1, e => by
    rw [List.take_succ_cons, List.take_succ_cons, linesCells, linesCells, linesCells_take ls hs k (by simpa using e)]
    rw [List.take_append, show (lineCells l h).take ((k + 1) * 7) = lineCells l h from List.take_of_length_le (by simp [lineCells]; omega)]
    congr 2
    simp [lineCells]; omega
theorem CellsAt.take {w : World} {B k : Nat} {ao : Option Addr} {cs : List Value} (h : CellsAt w B ao cs) : CellsAt w B ao (cs.take k) := by
  rcases h with rfl | ⟨b, o, e, hb, hc⟩
  · left; simp
  · right
    refine ⟨b, o, e, hb, fun j u hu => hc j u ?_⟩
    rw [List.getElem?_take] at hu
    split at hu
    · exact hu
    · simp at hu
/-- The lines ahead of number k. -/
theorem Lns.take {w : World} {B n k : Nat} {ao : Option Addr} {ls : List Ln} (h : Lns w B ao n ls) (hk : k ≤ n) : Lns w B ao k (ls.take k) := by
  obtain ⟨h1, h2, hs, h3, h4, h5⟩ := h
  refine ⟨by simp; omega, by omega, hs.take k, by simp; omega, ?_, ?_⟩
  · rw [linesCells_take ls hs k (by omega)]
    exact h4.take
  · intro j l x a b
    rw [List.getElem?_take] at a b
    split at a
    · next hj => rw [if_pos hj] at b; exact h5 j l x a b
    · simp at a
theorem seq_yes {a b : ByteArray} (h : a = b) : (a.toList == b.toList) = true := by rw [h]; simp
theorem seq_no {a b : ByteArray} (h : a ≠ b) : (a.toList == b.toList) = false := by
  rw [← beq_toListBytes]; exact bytes_beq_no.2 h
theorem empty_list : ByteArray.empty.toList = [] := by rw [ByteArray.toList_eq]; rfl
/-- The cells of a boxed line. -/
def BoxL (W : World) (b : Nat) (l : Ln) (pa : Option Addr) (pc : Nat) : Prop :=
  W.cell? ⟨b, 0, none⟩ = some (.int .i64 l.kind) ∧ W.cell? ⟨b, 1, none⟩ = some (.string l.name) ∧ W.cell? ⟨b, 2, none⟩ = some (.string l.op) ∧ W.cell? ⟨b, 3, none⟩ = some (.slice pa l.parts.length pc) ∧ W.cell? ⟨b, 4, none⟩ = some (.int .i64 l.party) ∧ W.cell? ⟨b, 5, none⟩ = some (.int .i64 l.width) ∧ W.cell? ⟨b, 6, none⟩ = some (.int .i64 l.value)
/-- A boxed line's block. -/
def lineObj (l : Ln) (pa : Option Addr) (pc : Nat) : Obj := .cells #[.int .i64 l.kind, .string l.name, .string l.op, .slice pa l.parts.length pc, .int .i64 l.party, .int .i64 l.width, .int .i64 l.value] 47
theorem boxL_new (w : World) (l : Ln) (pa : Option Addr) (pc : Nat) : BoxL (w.alloc (lineObj l pa pc)) w.heap.size l pa pc := by
  have h := heap_alloc_new w (lineObj l pa pc)
  have c := fun j => cell_of_row (w.alloc (lineObj l pa pc)) w.heap.size j _ _ (0, 0) h
  refine ⟨?_, ?_, ?_, ?_, ?_, ?_, ?_⟩ <;> rw [c] <;> rfl
theorem BoxL.below {W W' : World} {b C : Nat} {l : Ln} {pa : Option Addr} {pc : Nat} (h : BoxL W b l pa pc) (hb : Below C W W') (hC : b < C) : BoxL W' b l pa pc :=
  ⟨(hb.cell (p := ⟨b, 0, none⟩) hC).trans h.1, (hb.cell (p := ⟨b, 1, none⟩) hC).trans h.2.1, (hb.cell (p := ⟨b, 2, none⟩) hC).trans h.2.2.1, (hb.cell (p := ⟨b, 3, none⟩) hC).trans h.2.2.2.1, (hb.cell (p := ⟨b, 4, none⟩) hC).trans h.2.2.2.2.1, (hb.cell (p := ⟨b, 5, none⟩) hC).trans h.2.2.2.2.2.1, (hb.cell (p := ⟨b, 6, none⟩) hC).trans h.2.2.2.2.2.2⟩
theorem findIdx_some {α : Type} {p : α → Bool} : ∀ {l : List α} {k : Nat} {x : α}, l[k]? = some x → p x = true → (∀ (j : Nat) (y : α), j < k → l[j]? = some y → p y = false) → l.findIdx? p = some k
  | [], k, x, h, _, _ => by simp at h
  | a :: l, 0, x, h, hp, _ => by simp at h; subst h; rw [List.findIdx?_cons, hp]; rfl
  | a :: l, k + 1, x, h, hp, hj => by
    rw [List.findIdx?_cons, hj 0 a (by omega) (by simp), findIdx_some (l := l) (by simpa using h) hp fun j y hlt hy => hj (j + 1) y (by omega) (by simpa using hy)]; rfl
theorem findIdx_none {α : Type} {p : α → Bool} {l : List α} (h : ∀ (j : Nat) (y : α), l[j]? = some y → p y = false) : l.findIdx? p = none :=
  findIdx_no fun x hx => by obtain ⟨j, hj⟩ := List.getElem?_of_mem hx; exact h j x hj
set_option maxHeartbeats 1600000 in
theorem laFind_any (w : World) (B : Nat) (ao : Option Addr) (n c : Nat) (ls : List Ln) (name : ByteArray) (h : Lns w B ao n ls) (hB : B ≤ w.heap.size) :
    Calls Tryz.prog 49 #[.slice ao n c, .string name] w (RetN (findF ls name) w) := by
  have hn := h.le
  have hl := Lib.hid h.1
  go_enter Tryz.func49, Tryz.ntmps49
  go_wp2_with fail
  go_loopw [9] (fun i wr => ∃ k : Nat, k ≤ n ∧ i = .int .i64 k ∧ Hid (∀ (j : Nat) (y : Ln), j < k → ls[j]? = some y → findB name y = false) ∧ Below w.heap.size w wr) (fun i _ => n - (intOf i).toNat)
  case atStart => exact ⟨0, Nat.zero_le _, rfl, by intro j y hj; omega, Below.refl _ _⟩
  case round =>
    obtain ⟨k, hk, rfl, hlow, hbel⟩ := hrel
    by_cases hlt : k < n
    · obtain ⟨b, o, l, pa, pc, rfl, hb, hx, hps, g0, g1, g2, g3, g4, g5, g6⟩ := (h.below hbel hB).at hlt
      have HX := Lib.hid hx
      clear hx
      obtain ⟨W2, hW2⟩ : ∃ W2, W2 = wr.alloc (lineObj l pa pc) := ⟨_, rfl⟩
      have hal : Below wr.heap.size wr W2 := by rw [hW2]; exact (Below.refl _ _).alloc (Nat.le_refl _) _
      have hbx : BoxL W2 wr.heap.size l pa pc := by rw [hW2]; exact boxL_new _ _ _ _
      have HW2 := Lib.hid hW2
      clear hW2
      obtain ⟨e0, e1, e2, e3, e4, e5, e6⟩ := hbx
      have hbel2 := hbel.trans (hal.mono hbel.size)
      unfold lineObj at HW2
      by_cases k6 : l.kind = 6
      · have kb : (l.kind != 6) = false := by simp [k6]
        have HF : Hid (findB name l = false) := by show _ = _; simp [findB, kb]
        clear k6
        go_wp2_with (rw [← HW2.out])
        go_roundw
        case rel => exact ⟨k + 1, by omega, by go_num, by
          intro j y hj hy
          by_cases he : j = k
          · subst he; rw [HX.out] at hy; simp at hy; rw [← hy]; exact HF.out
          · exact hlow.out j y (by omega) hy, hbel2⟩
        case measure => simp [intOf] <;> omega
      · have kb : (l.kind != 6) = true := by simp [k6]
        by_cases hn : l.name = name
        · have sb := seq_yes hn
          have HF : Hid (findB name l = true) := by show _ = _; simp [findB, kb, hn]
          clear hn
          go_wp2_with (rw [← HW2.out])
          go_ret
          exact ⟨ret_int (by rw [findF, findIdx_some HX.out HF.out hlow.out]), hbel2⟩
        · have sb := seq_no hn
          have HF : Hid (findB name l = false) := by show _ = _; rw [findB, bytes_beq_no.2 hn, Bool.and_false]
          go_wp2_with (rw [← HW2.out])
          go_roundw
          case rel => exact ⟨k + 1, by omega, by go_num, by
            intro j y hj hy
            by_cases he : j = k
            · subst he; rw [HX.out] at hy; simp at hy; rw [← hy]; exact HF.out
            · exact hlow.out j y (by omega) hy, hbel2⟩
          case measure => simp [intOf] <;> omega
    · obtain rfl : k = n := by omega
      go_wp2_with fail
      go_ret
      exact ⟨ret_int (by rw [findF, findIdx_none fun j y hy => hlow.out j y (by rw [← hl.out]; exact (List.getElem?_eq_some_iff.1 hy).1) hy]), hbel⟩
theorem laParts_any (w : World) (k : Int) : Calls Tryz.prog 75 #[.int .i64 k] w fun e w' => e = .returned (.int .i64 (laParts k)) ∧ w = w' := by
  by_cases k3 : k = 3
  · subst k3
    go_enter Tryz.func75, Tryz.ntmps75
    go_wp2_with fail
    go_ret
    exact ⟨rfl, rfl⟩
  by_cases k4 : k = 4
  · subst k4
    go_enter Tryz.func75, Tryz.ntmps75
    go_wp2_with fail
    go_ret
    exact ⟨rfl, rfl⟩
  by_cases k6 : k = 6
  · subst k6
    go_enter Tryz.func75, Tryz.ntmps75
    go_wp2_with fail
    go_ret
    exact ⟨rfl, rfl⟩
  by_cases k5 : k = 5
  · subst k5
    go_enter Tryz.func75, Tryz.ntmps75
    go_wp2_with fail
    go_ret
    exact ⟨rfl, rfl⟩
  have b3 : (k == 3) = false := by simp [k3]
  have b4 : (k == 4) = false := by simp [k4]
  have b5 : (k == 5) = false := by simp [k5]
  have b6 : (k == 6) = false := by simp [k6]
  go_enter Tryz.func75, Tryz.ntmps75
  go_wp2_with fail
  go_ret
  exact ⟨ret_int (by simp [laParts, k3, k4, k5, k6]), rfl⟩
end Go.Proofs.YtdlddkgmjpmenaaGreatDoor
