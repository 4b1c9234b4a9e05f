/-
  The language: programs in memory; the reference's small functions.
-/
import Derived.Test.YtdlddkgmjpmenaaGreatDoorHLa
import Derived.Test.YtdlddkgmjpmenaaGreatDoorHB
import Derived.Deep.Strs
import Derived.StillTailTactics
import Derived.Deep.RegionHeld3
import Derived.Lib.Bytealg
import Derived.Deep.CutBlock
import Derived.Deep.DeepCutAuto
namespace Go.Proofs.YtdlddkgmjpmenaaGreatDoor
open Go.RowKit
set_option linter.unusedVariables false
set_option linter.unusedSimpArgs false

/-- A slice of texts. -/
def Strs (w : World) (B : Nat) (ao : Option Addr) (n : Nat) (ss : List ByteArray) : Prop := ss.length = n ∧ n ≤ 1000000000 ∧ CellsAt w B ao (ss.map Value.string)
/-- The cells of a line whose parts lie at h. -/
def lineCells (l : Ln) (h : Option Addr × Nat) : List Value := [.int .i64 l.kind, .string l.name, .string l.op, .slice h.1 l.parts.length h.2, .int .i64 l.party, .int .i64 l.width, .int .i64 l.value]
def linesCells : List Ln → List (Option Addr × Nat) → List Value
  | l :: ls, h :: hs => lineCells l h ++ linesCells ls hs
  | _, _ => []
/-- A slice of lines. -/
def Lns (w : World) (B : Nat) (ao : Option Addr) (n : Nat) (ls : List Ln) : Prop :=
  ls.length = n ∧ n ≤ 1000000000 ∧ ∃ hs : List (Option Addr × Nat), hs.length = n ∧ CellsAt w B ao (linesCells ls hs) ∧ ∀ (k : Nat) (l : Ln) (h : Option Addr × Nat), ls[k]? = some l → hs[k]? = some h → Strs w B h.1 l.parts.length l.parts
section
variable {w w' : World} {B C : Nat} {ao : Option Addr} {n : Nat} {ss : List ByteArray} {ls : List Ln}
theorem Strs.below (h : Strs w B ao n ss) (hb : Below C w w') (hC : B ≤ C) : Strs w' B ao n ss := ⟨h.1, h.2.1, h.2.2.below hb hC⟩
theorem Strs.up (h : Strs w B ao n ss) (hC : B ≤ C) : Strs w C ao n ss := ⟨h.1, h.2.1, h.2.2.up hC⟩
theorem Strs.le (h : Strs w B ao n ss) : n ≤ 1000000000 := h.2.1
theorem Strs.at (h : Strs w B ao n ss) {k : Nat} (hk : k < n) : ∃ b off x, ao = some ⟨b, off, none⟩ ∧ b < B ∧ ss[k]? = some x ∧ w.cell? ⟨b, off + k, none⟩ = some (.string x) := by
  obtain ⟨rfl, _, h⟩ := h
  rcases h with h | ⟨b, off, rfl, hlt, h⟩
  · simp at h; subst h; simp at hk
  · exact ⟨b, off, ss[k], rfl, hlt, by simp [hk], h k _ (by simp [hk])⟩
theorem Lns.below (h : Lns w B ao n ls) (hb : Below C w w') (hC : B ≤ C) : Lns w' B ao n ls := by
  obtain ⟨h1, h2, hs, h3, h4, h5⟩ := h
  exact ⟨h1, h2, hs, h3, h4.below hb hC, fun k l x a b => (h5 k l x a b).below hb hC⟩
theorem Lns.up (h : Lns w B ao n ls) (hC : B ≤ C) : Lns w C ao n ls := by
  obtain ⟨h1, h2, hs, h3, h4, h5⟩ := h
  exact ⟨h1, h2, hs, h3, h4.up hC, fun k l x a b => (h5 k l x a b).up hC⟩
theorem Lns.le (h : Lns w B ao n ls) : n ≤ 1000000000 := h.2.1
theorem Lns.drewN (h : Lns w B ao n ls) (k : Nat) : Lns (w.drewN k) B ao n ls := h
theorem Strs.drewN (h : Strs w B ao n ss) (k : Nat) : Strs (w.drewN k) B ao n ss := h
end
theorem linesCells_at : ∀ (ls : List Ln) (hs : List (Option Addr × Nat)) (k : Nat) (l : Ln) (h : Option Addr × Nat), ls[k]? = some l → hs[k]? = some h → ∀ (j : Nat) (v : Value), (lineCells l h)[j]? = some v → (linesCells ls hs)[k * 7 + j]? = some v
  | [], _, k, l, h, e, _, _, _, _ => by simp at e
  | _ :: _, [], k, l, h, _, e, _, _, _ => by simp at e
  | l0 :: ls, h0 :: hs, 0, l, h, e1, e2, j, v, e3 => by
    simp at e1 e2
    subst e1
    subst e2
    have hj : j < (lineCells l0 h0).length := (List.getElem?_eq_some_iff.1 e3).1
    rw [linesCells, Nat.zero_mul, Nat.zero_add, List.getElem?_append_left hj, e3]
  | l0 :: ls, h0 :: hs, k + 1, l, h, e1, e2, j, v, e3 => by
    rw [linesCells, List.getElem?_append_right (by simp [lineCells]; omega)]
    rw [show (k + 1) * 7 + j - (lineCells l0 h0).length = k * 7 + j from by simp [lineCells]; omega]
    exact linesCells_at ls hs k l h (by simpa using e1) (by simpa using e2) j v e3
/-- The cells of line k. -/
theorem Lns.at {w : World} {B : Nat} {ao : Option Addr} {n : Nat} {ls : List Ln} (h : Lns w B ao n ls) {k : Nat} (hk : k < n) :
    ∃ b o l pa pc, ao = some ⟨b, o, none⟩ ∧ b < B ∧ ls[k]? = some l ∧ Strs w B pa l.parts.length l.parts ∧
      w.cell? ⟨b, o + k * 7, none⟩ = some (.int .i64 l.kind) ∧ w.cell? ⟨b, o + k * 7 + 1, none⟩ = some (.string l.name) ∧ w.cell? ⟨b, o + k * 7 + 2, none⟩ = some (.string l.op) ∧ w.cell? ⟨b, o + k * 7 + 3, none⟩ = some (.slice pa l.parts.length pc) ∧
      w.cell? ⟨b, o + k * 7 + 4, none⟩ = some (.int .i64 l.party) ∧ w.cell? ⟨b, o + k * 7 + 5, none⟩ = some (.int .i64 l.width) ∧ w.cell? ⟨b, o + k * 7 + 6, none⟩ = some (.int .i64 l.value) := by
  obtain ⟨rfl, _, hs, h3, h4, h5⟩ := h
  have e1 : ls[k]? = some ls[k] := by simp
  obtain ⟨h0, e2⟩ : ∃ h0, hs[k]? = some h0 := ⟨hs[k]'(by omega), by simp⟩
  have e3 := fun j v => linesCells_at ls hs k _ _ e1 e2 j v
  rcases h4 with h4 | ⟨b, o, rfl, hb, h4⟩
  · have := e3 0 (.int .i64 ls[k].kind) rfl
    rw [h4] at this
    simp at this
  · refine ⟨b, o, ls[k], h0.1, h0.2, rfl, hb, e1, h5 k _ _ e1 e2, ?_, ?_, ?_, ?_, ?_, ?_, ?_⟩
    · have := h4 _ _ (e3 0 _ rfl); simpa using this
    · have := h4 _ _ (e3 1 _ rfl); rwa [← Nat.add_assoc] at this
    · have := h4 _ _ (e3 2 _ rfl); rwa [← Nat.add_assoc] at this
    · have := h4 _ _ (e3 3 _ rfl); rwa [← Nat.add_assoc] at this
    · have := h4 _ _ (e3 4 _ rfl); rwa [← Nat.add_assoc] at this
    · have := h4 _ _ (e3 5 _ rfl); rwa [← Nat.add_assoc] at this
    · have := h4 _ _ (e3 6 _ rfl); rwa [← Nat.add_assoc] at this
theorem linesCells_take : ∀ (ls : List Ln) (hs : List (Option Addr × Nat)) (k : Nat), ls.length = hs.length → linesCells (ls.take k) (hs.take k) = (linesCells ls hs).take (k * 7)
  | [], [], k, _ => by simp [linesCells]
  | [], _ :: _, _, h => by simp at h
  | _ :: _, [], _, h => by simp at h
  | l :: ls, h :: hs, 0, _ => by simp [linesCells]
  | l :: ls, h :: hs, k + 1, e => by
    rw [List.take_succ_cons, List.take_succ_cons, linesCells, linesCells, linesCells_take ls hs k (by simpa using e)]
    rw [List.take_append, show (lineCells l h).take ((k + 1) * 7) = lineCells l h from List.take_of_length_le (by simp [lineCells]; omega)]
    congr 2
    simp [lineCells]; omega
theorem CellsAt.take {w : World} {B k : Nat} {ao : Option Addr} {cs : List Value} (h : CellsAt w B ao cs) : CellsAt w B ao (cs.take k) := by
  rcases h with rfl | ⟨b, o, e, hb, hc⟩
  · left; simp
  · right
    refine ⟨b, o, e, hb, fun j u hu => hc j u ?_⟩
    rw [List.getElem?_take] at hu
    split at hu
    · exact hu
    · simp at hu
/-- The lines ahead of number k. -/
theorem Lns.take {w : World} {B n k : Nat} {ao : Option Addr} {ls : List Ln} (h : Lns w B ao n ls) (hk : k ≤ n) : Lns w B ao k (ls.take k) := by
  obtain ⟨h1, h2, hs, h3, h4, h5⟩ := h
  refine ⟨by simp; omega, by omega, hs.take k, by simp; omega, ?_, ?_⟩
  · rw [linesCells_take ls hs k (by omega)]
    exact h4.take
  · intro j l x a b
    rw [List.getElem?_take] at a b
    split at a
    · next hj => rw [if_pos hj] at b; exact h5 j l x a b
    · simp at a
theorem seq_yes {a b : ByteArray} (h : a = b) : (a.toList == b.toList) = true := by rw [h]; simp
theorem seq_no {a b : ByteArray} (h : a ≠ b) : (a.toList == b.toList) = false := by
  rw [← beq_toListBytes]; exact bytes_beq_no.2 h
theorem empty_list : ByteArray.empty.toList = [] := by rw [ByteArray.toList_eq]; rfl
/-- The cells of a boxed line. -/
def BoxL (W : World) (b : Nat) (l : Ln) (pa : Option Addr) (pc : Nat) : Prop :=
  W.cell? ⟨b, 0, none⟩ = some (.int .i64 l.kind) ∧ W.cell? ⟨b, 1, none⟩ = some (.string l.name) ∧ W.cell? ⟨b, 2, none⟩ = some (.string l.op) ∧ W.cell? ⟨b, 3, none⟩ = some (.slice pa l.parts.length pc) ∧ W.cell? ⟨b, 4, none⟩ = some (.int .i64 l.party) ∧ W.cell? ⟨b, 5, none⟩ = some (.int .i64 l.width) ∧ W.cell? ⟨b, 6, none⟩ = some (.int .i64 l.value)
/-- A boxed line's block. -/
def lineObj (l : Ln) (pa : Option Addr) (pc : Nat) : Obj := .cells #[.int .i64 l.kind, .string l.name, .string l.op, .slice pa l.parts.length pc, .int .i64 l.party, .int .i64 l.width, .int .i64 l.value] 47
theorem boxL_new (w : World) (l : Ln) (pa : Option Addr) (pc : Nat) : BoxL (w.alloc (lineObj l pa pc)) w.heap.size l pa pc := by
  have h := heap_alloc_new w (lineObj l pa pc)
  have c := fun j => cell_of_row (w.alloc (lineObj l pa pc)) w.heap.size j _ _ (0, 0) h
  refine ⟨?_, ?_, ?_, ?_, ?_, ?_, ?_⟩ <;> rw [c] <;> rfl
theorem BoxL.below {W W' : World} {b C : Nat} {l : Ln} {pa : Option Addr} {pc : Nat} (h : BoxL W b l pa pc) (hb : Below C W W') (hC : b < C) : BoxL W' b l pa pc :=
  ⟨(hb.cell (p := ⟨b, 0, none⟩) hC).trans h.1, (hb.cell (p := ⟨b, 1, none⟩) hC).trans h.2.1, (hb.cell (p := ⟨b, 2, none⟩) hC).trans h.2.2.1, (hb.cell (p := ⟨b, 3, none⟩) hC).trans h.2.2.2.1, (hb.cell (p := ⟨b, 4, none⟩) hC).trans h.2.2.2.2.1, (hb.cell (p := ⟨b, 5, none⟩) hC).trans h.2.2.2.2.2.1, (hb.cell (p := ⟨b, 6, none⟩) hC).trans h.2.2.2.2.2.2⟩
theorem findIdx_some {α : Type} {p : α → Bool} : ∀ {l : List α} {k : Nat} {x : α}, l[k]? = some x → p x = true → (∀ (j : Nat) (y : α), j < k → l[j]? = some y → p y = false) → l.findIdx? p = some k
  | [], k, x, h, _, _ => by simp at h
  | a :: l, 0, x, h, hp, _ => by simp at h; subst h; rw [List.findIdx?_cons, hp]; rfl
  | a :: l, k + 1, x, h, hp, hj => by
    rw [List.findIdx?_cons, hj 0 a (by omega) (by simp), findIdx_some (l := l) (by simpa using h) hp fun j y hlt hy => hj (j + 1) y (by omega) (by simpa using hy)]; rfl
theorem findIdx_none {α : Type} {p : α → Bool} {l : List α} (h : ∀ (j : Nat) (y : α), l[j]? = some y → p y = false) : l.findIdx? p = none :=
  findIdx_no fun x hx => by obtain ⟨j, hj⟩ := List.getElem?_of_mem hx; exact h j x hj
set_option maxHeartbeats 1600000 in
theorem laFind_any (w : World) (B : Nat) (ao : Option Addr) (n c : Nat) (ls : List Ln) (name : ByteArray) (h : Lns w B ao n ls) (hB : B ≤ w.heap.size) :
    Calls Tryz.prog 49 #[.slice ao n c, .string name] w (RetN (findF ls name) w) := by
  have hn := h.le
  have hl := Lib.hid h.1
  go_enter Tryz.func49, Tryz.ntmps49
  go_wp2_with fail
  go_loopw [9] (fun i wr => ∃ k : Nat, k ≤ n ∧ i = .int .i64 k ∧ Hid (∀ (j : Nat) (y : Ln), j < k → ls[j]? = some y → findB name y = false) ∧ Below w.heap.size w wr) (fun i _ => n - (intOf i).toNat)
  case atStart => exact ⟨0, Nat.zero_le _, rfl, by intro j y hj; omega, Below.refl _ _⟩
  case round =>
    obtain ⟨k, hk, rfl, hlow, hbel⟩ := hrel
    by_cases hlt : k < n
    · obtain ⟨b, o, l, pa, pc, rfl, hb, hx, hps, g0, g1, g2, g3, g4, g5, g6⟩ := (h.below hbel hB).at hlt
      have HX := Lib.hid hx
      clear hx
      obtain ⟨W2, hW2⟩ : ∃ W2, W2 = wr.alloc (lineObj l pa pc) := ⟨_, rfl⟩
      have hal : Below wr.heap.size wr W2 := by rw [hW2]; exact (Below.refl _ _).alloc (Nat.le_refl _) _
      have hbx : BoxL W2 wr.heap.size l pa pc := by rw [hW2]; exact boxL_new _ _ _ _
      have HW2 := Lib.hid hW2
      clear hW2
      obtain ⟨e0, e1, e2, e3, e4, e5, e6⟩ := hbx
      have hbel2 := hbel.trans (hal.mono hbel.size)
      unfold lineObj at HW2
      by_cases k6 : l.kind = 6
      · have kb : (l.kind != 6) = false := by simp [k6]
        have HF : Hid (findB name l = false) := by show _ = _; simp [findB, kb]
        clear k6
        go_wp2_with (rw [← HW2.out])
        go_roundw
        case rel => exact ⟨k + 1, by omega, by go_num, by
          intro j y hj hy
          by_cases he : j = k
          · subst he; rw [HX.out] at hy; simp at hy; rw [← hy]; exact HF.out
          · exact hlow.out j y (by omega) hy, hbel2⟩
        case measure => simp [intOf] <;> omega
      · have kb : (l.kind != 6) = true := by simp [k6]
        by_cases hn : l.name = name
        · have sb := seq_yes hn
          have HF : Hid (findB name l = true) := by show _ = _; simp [findB, kb, hn]
          clear hn
          go_wp2_with (rw [← HW2.out])
          go_ret
          exact ⟨ret_int (by rw [findF, findIdx_some HX.out HF.out hlow.out]), hbel2⟩
        · have sb := seq_no hn
          have HF : Hid (findB name l = false) := by show _ = _; rw [findB, bytes_beq_no.2 hn, Bool.and_false]
          go_wp2_with (rw [← HW2.out])
          go_roundw
          case rel => exact ⟨k + 1, by omega, by go_num, by
            intro j y hj hy
            by_cases he : j = k
            · subst he; rw [HX.out] at hy; simp at hy; rw [← hy]; exact HF.out
            · exact hlow.out j y (by omega) hy, hbel2⟩
          case measure => simp [intOf] <;> omega
    · obtain rfl : k = n := by omega
      go_wp2_with fail
      go_ret
      exact ⟨ret_int (by rw [findF, findIdx_none fun j y hy => hlow.out j y (by rw [← hl.out]; exact (List.getElem?_eq_some_iff.1 hy).1) hy]), hbel⟩
theorem laParts_any (w : World) (k : Int) : Calls Tryz.prog 75 #[.int .i64 k] w fun e w' => e = .returned (.int .i64 (laParts k)) ∧ w = w' := by
  by_cases k3 : k = 3
  · subst k3
    go_enter Tryz.func75, Tryz.ntmps75
    go_wp2_with fail
    go_ret
    exact ⟨rfl, rfl⟩
  by_cases k4 : k = 4
  · subst k4
    go_enter Tryz.func75, Tryz.ntmps75
    go_wp2_with fail
    go_ret
    exact ⟨rfl, rfl⟩
  by_cases k6 : k = 6
  · subst k6
    go_enter Tryz.func75, Tryz.ntmps75
    go_wp2_with fail
    go_ret
    exact ⟨rfl, rfl⟩
  by_cases k5 : k = 5
  · subst k5
    go_enter Tryz.func75, Tryz.ntmps75
    go_wp2_with fail
    go_ret
    exact ⟨rfl, rfl⟩
  have b3 : (k == 3) = false := by simp [k3]
  have b4 : (k == 4) = false := by simp [k4]
  have b5 : (k == 5) = false := by simp [k5]
  have b6 : (k == 6) = false := by simp [k6]
  go_enter Tryz.func75, Tryz.ntmps75
  go_wp2_with fail
  go_ret
  exact ⟨ret_int (by simp [laParts, k3, k4, k5, k6]), rfl⟩
end Go.Proofs.YtdlddkgmjpmenaaGreatDoor
/-
  The language: names, operations, sums, inputs: small functions both ways.
-/
namespace Go.Proofs.YtdlddkgmjpmenaaGreatDoor
open Go.RowKit
set_option linter.unusedVariables false
set_option linter.unusedSimpArgs false

theorem letters_step {s : ByteArray} {k : Nat} (hk : k < s.size) (h : (s.data.toList.take k).all letterB = true) : (s.data.toList.take (k + 1)).all letterB = letterB s[k] := by
  have e : s.data.toList[k]? = some s[k] := by
    rw [List.getElem?_eq_getElem (by simpa using hk)]
    rfl
  rw [List.take_add_one, e, List.all_append, h, Bool.true_and]
  simp
theorem letters_stop {s : ByteArray} {k : Nat} (hk : k < s.size) (h : letterB s[k] = false) : nameB s = false := by
  have e : s.data.toList[k]? = some s[k] := by
    rw [List.getElem?_eq_getElem (by simpa using hk)]
    rfl
  have : s.data.toList.all letterB = false := by
    rw [List.all_eq_false]
    exact ⟨s[k], List.mem_of_getElem? e, by simp [h]⟩
  rw [nameB, this, Bool.false_and]
theorem laName_any (w : World) (s : ByteArray) (hs : s.size ≤ 1048576) : Calls Tryz.prog 105 #[.string s] w fun e w' => e = .returned (.bool (nameB s)) ∧ w = w' := by
  go_enter Tryz.func105, Tryz.ntmps105
  go_wp2
  go_loop [3] (fun i => ∃ k : Nat, k ≤ s.size ∧ i = .int .i64 k ∧ Hid ((s.data.toList.take k).all letterB = true)) (fun i => s.size - (intOf i).toNat)
  case atStart => exact ⟨0, Nat.zero_le _, rfl, by show _ = _; simp⟩
  case round =>
    obtain ⟨k, hk, rfl, hlow⟩ := hrel
    by_cases hlt : k < s.size
    · have hc : s[k].toNat < 256 := s[k].toNat_lt
      by_cases a1 : s[k].toNat < 97
      · have a1' : (s[k].toNat : Int) < 97 := by omega
        have HF := Lib.hid (letters_stop hlt (by unfold letterB; simp; omega))
        go_wp2
        go_ret
        exact ⟨ret_bool HF.out.symm, rfl⟩
      by_cases a2 : 122 < s[k].toNat
      · have a1' : ¬ (s[k].toNat : Int) < 97 := by omega
        have a2' : (122 : Int) < s[k].toNat := by omega
        have HF := Lib.hid (letters_stop hlt (by unfold letterB; simp; omega))
        go_wp2
        go_ret
        exact ⟨ret_bool HF.out.symm, rfl⟩
      · have a1' : ¬ (s[k].toNat : Int) < 97 := by omega
        have a2' : ¬ (122 : Int) < s[k].toNat := by omega
        have HF : Hid ((s.data.toList.take (k + 1)).all letterB = true) := by show _ = _; rw [letters_step hlt hlow.out]; unfold letterB; simp; omega
        go_wp2
        go_round
        case rel => exact ⟨k + 1, by omega, by go_num, HF⟩
        case measure => simp [intOf] <;> omega
    · obtain rfl : k = s.size := by omega
      have HF := hlow.out
      rw [List.take_of_length_le (by simp)] at HF
      have HG : Hid (inB (s.size : Int) 1 6 = nameB s) := by show _ = _; rw [nameB, HF, Bool.true_and]
      clear HF
      go_wp2_with (go_at_call 95; refine (l1In_any _ _ _ _).mono ?_; rintro e w' ⟨rfl, rfl⟩; rw [HG.out])
      go_ret
      exact ⟨rfl, rfl⟩
theorem isName_any (w : World) (s : ByteArray) (hs : s.size ≤ 1048576) : Calls Tryz.prog 104 #[.string s] w fun e w' => e = .returned (.bool (nameB s)) ∧ w = w' := by
  go_enter Tryz.func104, Tryz.ntmps104
  go_wp2
  go_loop [6] (fun i => ∃ k : Nat, k ≤ s.size ∧ i = .int .i64 k ∧ Hid ((s.data.toList.take k).all letterB = true)) (fun i => s.size - (intOf i).toNat)
  case atStart => exact ⟨0, Nat.zero_le _, rfl, by show _ = _; simp⟩
  case round =>
    obtain ⟨k, hk, rfl, hlow⟩ := hrel
    by_cases hlt : k < s.size
    · have hc : s[k].toNat < 256 := s[k].toNat_lt
      by_cases a1 : s[k].toNat < 97
      · have a1' : (s[k].toNat : Int) < 97 := by omega
        have HF := Lib.hid (letters_stop hlt (by unfold letterB; simp; omega))
        go_wp2
        go_ret
        exact ⟨ret_bool HF.out.symm, rfl⟩
      by_cases a2 : 122 < s[k].toNat
      · have a1' : ¬ (s[k].toNat : Int) < 97 := by omega
        have a2' : (122 : Int) < s[k].toNat := by omega
        have HF := Lib.hid (letters_stop hlt (by unfold letterB; simp; omega))
        go_wp2
        go_ret
        exact ⟨ret_bool HF.out.symm, rfl⟩
      · have a1' : ¬ (s[k].toNat : Int) < 97 := by omega
        have a2' : ¬ (122 : Int) < s[k].toNat := by omega
        have HF : Hid ((s.data.toList.take (k + 1)).all letterB = true) := by show _ = _; rw [letters_step hlt hlow.out]; unfold letterB; simp; omega
        go_wp2
        go_round
        case rel => exact ⟨k + 1, by omega, by go_num, HF⟩
        case measure => simp [intOf] <;> omega
    · obtain rfl : k = s.size := by omega
      have HF := hlow.out
      rw [List.take_of_length_le (by simp)] at HF
      have HG : Hid (inB (s.size : Int) 1 6 = nameB s) := by show _ = _; rw [nameB, HF, Bool.true_and]
      clear HF
      go_wp2_with (go_at_call 98; refine (within_any _ _ _ _).mono ?_; rintro e w' ⟨rfl, rfl⟩; rw [HG.out])
      go_ret
      exact ⟨rfl, rfl⟩
theorem isWidth_any (n : Int) (w : World) : Calls Tryz.prog 102 #[.int .i64 n] w fun e w' => e = .returned (.bool (inB n 1 10)) ∧ w = w' := by
  go_enter Tryz.func102, Tryz.ntmps102
  go_wp2_with (go_at_call 98; refine (within_any _ _ _ _).mono ?_; rintro e w' ⟨rfl, rfl⟩)
  go_ret
  exact ⟨rfl, rfl⟩
theorem isBit2_any (n : Int) (w : World) : Calls Tryz.prog 96 #[.int .i64 n] w fun e w' => e = .returned (.bool (inB n 0 1)) ∧ w = w' := by
  by_cases h0 : n = 0
  · subst h0
    go_enter Tryz.func96, Tryz.ntmps96
    go_wp2
    go_ret
    exact ⟨rfl, rfl⟩
  by_cases h1 : n = 1
  · subst h1
    go_enter Tryz.func96, Tryz.ntmps96
    go_wp2
    go_ret
    exact ⟨rfl, rfl⟩
  have b0 : (n == 0) = false := by simp [h0]
  have b1 : (n == 1) = false := by simp [h1]
  have HF : Hid (inB n 0 1 = false) := by show _ = _; rw [inB_no]; omega
  go_enter Tryz.func96, Tryz.ntmps96
  go_wp2
  go_ret
  exact ⟨ret_bool HF.out.symm, rfl⟩
theorem l1HasS_any (w : World) (B : Nat) (ao : Option Addr) (n c : Nat) (ss : List ByteArray) (s : ByteArray) (ha : Strs w B ao n ss) :
    Calls Tryz.prog 121 #[.slice ao n c, .string s] w fun e w' => e = .returned (.bool (ss.contains s)) ∧ w = w' := by
  have hn := ha.le
  have hl := Lib.hid ha.1
  go_enter Tryz.func121, Tryz.ntmps121
  go_wp2
  go_loop [9] (fun i => ∃ k : Nat, k ≤ n ∧ i = .int .i64 k ∧ Hid (s ∉ ss.take k)) (fun i => n - (intOf i).toNat)
  case atStart => exact ⟨0, Nat.zero_le _, rfl, by simp [Hid]⟩
  case round =>
    obtain ⟨k, hk, rfl, heq⟩ := hrel
    by_cases hlt : k < n
    · obtain ⟨b1, o1, x, rfl, hb1, hx, hc1⟩ := ha.at hlt
      have HX := Lib.hid hx
      clear hx
      by_cases hxv : x = s
      · have sb := seq_yes hxv
        have HM : Hid (ss.contains s = true) := by show _ = _; rw [← hxv]; simpa using List.mem_of_getElem? HX.out
        clear hxv
        go_wp2
        go_ret
        exact ⟨ret_bool (by have h := HM.out; simp at h; simp [h]), rfl⟩
      · have sb := seq_no hxv
        go_wp2
        go_round
        case rel => exact ⟨k + 1, by omega, by go_num, by
          intro hm
          rw [List.take_add_one, HX.out] at hm
          rcases List.mem_append.1 hm with hm | hm
          · exact heq.out hm
          · simp at hm; exact hxv hm.symm⟩
        case measure => simp [intOf] <;> omega
    · obtain rfl : k = n := by omega
      go_wp2
      go_ret
      exact ⟨ret_bool (by have h := heq.out; rw [List.take_of_length_le (by rw [hl.out]; exact Nat.le_refl _)] at h; symm; simpa using h), rfl⟩
theorem laSum_any (w : World) (B : Nat) (ao : Option Addr) (n c : Nat) (xs : List Int) (ha : Ints w B ao n xs) (hn : n ≤ 1000) (hx : okW xs) :
    Calls Tryz.prog 82 #[.slice ao n c] w fun e w' => e = .returned (.int .i64 (sumL' xs)) ∧ w = w' := by
  have hl := Lib.hid ha.1
  have HX := Lib.hid hx
  go_enter Tryz.func82, Tryz.ntmps82
  go_wp2
  go_loop [3, 8] (fun m i => ∃ k : Nat, k ≤ n ∧ i = .int .i64 k ∧ m = .int .i64 (sumL' (xs.take k)) ∧ 0 ≤ sumL' (xs.take k) ∧ sumL' (xs.take k) ≤ 10 * k) (fun _ i => n - (intOf i).toNat)
  case atStart => exact ⟨0, Nat.zero_le _, rfl, rfl, by simp [sumL'], by simp [sumL']⟩
  case round =>
    obtain ⟨k, hk, rfl, rfl, s0, s1⟩ := hrel
    by_cases hlt : k < n
    · obtain ⟨b1, o1, x, rfl, hb1, hx, hc1⟩ := ha.at hlt
      have hxx := HX.out k x hx
      have HS : Hid (sumL' (xs.take (k + 1)) = sumL' (xs.take k) + x) := by
        show _ = _
        rw [List.take_add_one, hx, sumL', List.foldl_append]; rfl
      obtain ⟨S, hS⟩ : ∃ S, S = sumL' (xs.take k) := ⟨_, rfl⟩
      rw [← hS] at s0 s1 HS ⊢
      clear hx hS
      go_wp2
      go_round
      case rel => exact ⟨k + 1, by omega, by go_num, by rw [HS.out], by rw [HS.out]; omega, by rw [HS.out]; omega⟩
      case measure => simp [intOf] <;> omega
    · obtain rfl : k = n := by omega
      have HT : xs.take k = xs := List.take_of_length_le (by rw [hl.out]; exact Nat.le_refl _)
      rw [HT]
      clear HT
      go_wp2
      go_ret
      exact ⟨rfl, rfl⟩
def opsObj : Obj := .cells #[.string ⟨#[43]⟩, .string ⟨#[45]⟩, .string ⟨#[42]⟩, .string ⟨#[60]⟩, .string ⟨#[61]⟩, .string ⟨#[38]⟩, .string ⟨#[124]⟩, .string ⟨#[94]⟩] 9
def RetSs (ss : List ByteArray) (w : World) (e : Ending) (w' : World) : Prop := ∃ ao n c, e = .returned (.slice ao n c) ∧ Strs w' w'.heap.size ao n ss ∧ Below w.heap.size w w'
theorem laOps_any (w : World) : Calls Tryz.prog 74 #[] w (RetSs opsL w) := by
  have hb0 : Below w.heap.size w (w.alloc opsObj) := (Below.refl _ _).alloc (Nat.le_refl _) _
  have hS : Strs (w.alloc opsObj) (w.heap.size + 1) (some ⟨w.heap.size, 0, none⟩) 8 opsL := by
    refine ⟨rfl, by decide, .inr ⟨_, _, rfl, Nat.lt_succ_self _, fun j u hu => ?_⟩⟩
    rw [Nat.zero_add, cell_of_row _ w.heap.size j _ _ (0, 0) (heap_alloc_new w opsObj)]
    simpa [opsL, opB] using hu
  have hz : (w.alloc opsObj).heap.size = w.heap.size + 1 := by simp
  rw [← hz] at hS
  unfold opsObj at hS hb0
  go_enter Tryz.func74, Tryz.ntmps74
  go_wp2
  go_ret
  exact ⟨_, _, _, rfl, hS, hb0⟩
theorem laTwo_any (w : World) (op : ByteArray) (a b : Int) (ha : 0 ≤ a ∧ a ≤ 10) : Calls Tryz.prog 106 #[.string op, .int .i64 a, .int .i64 b] w (RetN (laTwo op a b) w) := by
  by_cases hab : a = b
  rotate_left
  · have bb : (a != b) = true := by simp [hab]
    have HF : Hid (laTwo op a b = 0) := by show _ = _; unfold laTwo; rw [bb]; simp
    go_enter Tryz.func106, Tryz.ntmps106
    go_wp2_with fail
    go_ret
    exact ⟨ret_int HF.out.symm, Below.refl _ _⟩
  subst hab
  cases hop : opsL.contains op
  · have HF : Hid (laTwo op a a = 0) := by show _ = _; unfold laTwo; rw [hop]; simp
    have HO := Lib.hid hop
    clear hop
    go_enter Tryz.func106, Tryz.ntmps106
    go_wp2_with (first | (go_at_call 74; refine (laOps_any _).mono ?_; rintro e w1 ⟨a1, n1, c1, rfl, hs1, hb1⟩) | (go_at_call 121; refine (l1HasS_any _ _ _ _ _ _ _ hs1).mono ?_; rintro e w' ⟨rfl, rfl⟩; rw [HO.out]))
    go_ret
    exact ⟨ret_int HF.out.symm, hb1⟩
  have HO := Lib.hid hop
  have HL : Hid (laTwo op a a = if (op == opB 42 && decide (2 * a > 10)) = true then 0 else if (op == opB 42) = true then 2 * a else if (op == opB 60 || op == opB 61) = true then 1 else a) := by
    show _ = _; unfold laTwo; rw [hop]; simp
  clear hop
  by_cases hm : op = opB 42
  · subst hm
    have HL2 : Hid (laTwo (opB 42) a a = if 2 * a > 10 then 0 else 2 * a) := by show _ = _; rw [HL.out]; simp
    unfold opB at HO HL2 ⊢
    by_cases h10 : 2 * a > 10
    · go_enter Tryz.func106, Tryz.ntmps106
      go_wp2_with (first | (go_at_call 74; refine (laOps_any _).mono ?_; rintro e w1 ⟨a1, n1, c1, rfl, hs1, hb1⟩) | (go_at_call 121; refine (l1HasS_any _ _ _ _ _ _ _ hs1).mono ?_; rintro e w' ⟨rfl, rfl⟩; rw [HO.out]))
      go_ret
      exact ⟨ret_int (by rw [HL2.out, if_pos h10]), hb1⟩
    · have h10' : ¬ (10 : Int) < 2 * a := by omega
      go_enter Tryz.func106, Tryz.ntmps106
      go_wp2_with (first | (go_at_call 74; refine (laOps_any _).mono ?_; rintro e w1 ⟨a1, n1, c1, rfl, hs1, hb1⟩) | (go_at_call 121; refine (l1HasS_any _ _ _ _ _ _ _ hs1).mono ?_; rintro e w' ⟨rfl, rfl⟩; rw [HO.out]))
      go_ret
      exact ⟨ret_int (by rw [HL2.out, if_neg (by omega)]), hb1⟩
  have nm := seq_no hm
  have nmb := bytes_beq_no.2 hm
  by_cases hl : op = opB 60
  · have HL2 : Hid (laTwo op a a = 1) := by show _ = _; rw [HL.out, nmb, hl]; simp
    subst hl
    clear nm nmb hm
    unfold opB at HO HL2 ⊢
    go_enter Tryz.func106, Tryz.ntmps106
    go_wp2_with (first | (go_at_call 74; refine (laOps_any _).mono ?_; rintro e w1 ⟨a1, n1, c1, rfl, hs1, hb1⟩) | (go_at_call 121; refine (l1HasS_any _ _ _ _ _ _ _ hs1).mono ?_; rintro e w' ⟨rfl, rfl⟩; rw [HO.out]))
    go_ret
    exact ⟨ret_int HL2.out.symm, hb1⟩
  by_cases he : op = opB 61
  · have HL2 : Hid (laTwo op a a = 1) := by show _ = _; rw [HL.out, nmb, he]; simp
    subst he
    clear nm nmb hm hl
    unfold opB at HO HL2 ⊢
    go_enter Tryz.func106, Tryz.ntmps106
    go_wp2_with (first | (go_at_call 74; refine (laOps_any _).mono ?_; rintro e w1 ⟨a1, n1, c1, rfl, hs1, hb1⟩) | (go_at_call 121; refine (l1HasS_any _ _ _ _ _ _ _ hs1).mono ?_; rintro e w' ⟨rfl, rfl⟩; rw [HO.out]))
    go_ret
    exact ⟨ret_int HL2.out.symm, hb1⟩
  have nl := seq_no hl
  have ne := seq_no he
  have HL2 : Hid (laTwo op a a = a) := by show _ = _; rw [HL.out, nmb, bytes_beq_no.2 hl, bytes_beq_no.2 he]; simp
  unfold opB at nm nl ne
  have nm' : (op.toList == [42]) = false := by rw [← nm]; rw [ByteArray.toList_eq ⟨#[42]⟩]
  have nl' : (op.toList == [60]) = false := by rw [← nl]; rw [ByteArray.toList_eq ⟨#[60]⟩]
  have ne' : (op.toList == [61]) = false := by rw [← ne]; rw [ByteArray.toList_eq ⟨#[61]⟩]
  clear hm hl he nmb
  go_enter Tryz.func106, Tryz.ntmps106
  go_wp2_with (first | (go_at_call 74; refine (laOps_any _).mono ?_; rintro e w1 ⟨a1, n1, c1, rfl, hs1, hb1⟩) | (go_at_call 121; refine (l1HasS_any _ _ _ _ _ _ _ hs1).mono ?_; rintro e w' ⟨rfl, rfl⟩; rw [HO.out]))
  go_ret
  exact ⟨ret_int HL2.out.symm, hb1⟩
end Go.Proofs.YtdlddkgmjpmenaaGreatDoor
/-
  The language: the reference's width of a line.
-/
namespace Go.Proofs.YtdlddkgmjpmenaaGreatDoor
open Go.RowKit
set_option linter.unusedVariables false
set_option linter.unusedSimpArgs false

/-- Widths, or 0. -/
def okZ (ws : List Int) : Prop := ∀ (i : Nat) (x : Int), ws[i]? = some x → 0 ≤ x ∧ x ≤ 10
theorem okZ_at {ws : List Int} (h : okZ ws) (k : Int) : 0 ≤ atN ws k ∧ atN ws k ≤ 10 := by
  unfold atN
  rw [List.getD_eq_getElem?_getD]
  cases hx : ws[k.toNat]? with
  | none => simp
  | some x => simpa using h _ _ hx
theorem okZ_snoc {ws : List Int} (h : okZ ws) {x : Int} (hx : 0 ≤ x ∧ x ≤ 10) : okZ (ws ++ [x]) := by
  intro i y hy
  by_cases hi : i < ws.length
  · rw [List.getElem?_append_left hi] at hy; exact h i y hy
  · rw [List.getElem?_append_right (by omega)] at hy
    rcases Nat.eq_zero_or_pos (i - ws.length) with h0 | h0
    · rw [h0] at hy; simp at hy; subst hy; exact hx
    · rw [List.getElem?_eq_none (by simp; omega)] at hy; cases hy
theorem partsBy_snoc {f : ByteArray → Int} {ws : List Int} : ∀ {ps : List ByteArray} {k : Nat} {p : ByteArray} {v : List Int}, ps[k]? = some p → partsBy f ws (ps.take k) = some v → ¬ f p < 0 → partsBy f ws (ps.take (k + 1)) = some (v ++ [atN ws (f p)])
  | [], k, p, v, h, _, _ => by simp at h
  | q :: r, 0, p, v, h, h2, h3 => by
    simp at h
    subst h
    simp [partsBy] at h2
    subst h2
    simp [partsBy, h3]
  | q :: r, k + 1, p, v, h, h2, h3 => by
    rw [List.take_succ_cons] at h2 ⊢
    unfold partsBy at h2 ⊢
    split at h2
    · cases h2
    · next hq =>
      rw [if_neg hq]
      cases hr : partsBy f ws (r.take k) with
      | none => rw [hr] at h2; simp at h2
      | some u =>
        rw [hr] at h2
        simp at h2
        subst h2
        rw [partsBy_snoc (by simpa using h) hr h3]
        rfl
theorem partsBy_miss {f : ByteArray → Int} {ws : List Int} : ∀ {ps : List ByteArray} {k : Nat} {p : ByteArray}, ps[k]? = some p → f p < 0 → partsBy f ws ps = none
  | [], k, p, h, _ => by simp at h
  | q :: r, 0, p, h, h3 => by
    simp at h
    subst h
    unfold partsBy
    rw [if_pos h3]
  | q :: r, k + 1, p, h, h3 => by
    unfold partsBy
    split
    · rfl
    · rw [partsBy_miss (by simpa using h) h3]; rfl
theorem getL_at {α : Type} {l : List α} {n i : Nat} (h : l.length = n) (hi : i < n) : ∃ x, l[i]? = some x := ⟨l[i]'(by omega), by simp⟩
theorem own_cell {B : Nat} {w : World} {g n cap : Nat} {xs : List Int} (h : OwnI B w (some ⟨g, 0, none⟩) n cap xs) {k : Nat} {x : Int} (hx : xs[k]? = some x) : w.cell? ⟨g, k, none⟩ = some (.int .i64 x) := by
  have hk : k < n := by rw [← h.1]; exact (List.getElem?_eq_some_iff.1 hx).1
  obtain ⟨y, hy, hc⟩ := h.ints.at' hk
  rw [hx] at hy
  simp at hy
  subst hy
  rwa [Nat.zero_add] at hc
theorem own_blk {B : Nat} {w : World} {ao : Option Addr} {n cap : Nat} {xs : List Int} (h : OwnI B w ao n cap xs) (hn : 0 < n) : ∃ g, ao = some ⟨g, 0, none⟩ ∧ B ≤ g ∧ g < w.heap.size := by
  obtain ⟨g, h1, h2, h3, _⟩ := h.2.2.some hn
  exact ⟨g, h1, h2, h3⟩
theorem wrap_pow10m (k : Nat) (hk : k ≤ 10) : wrap64 (wrap64 (2 ^ k) - 1) = 2 ^ k - 1 := by
  have : k = 0 ∨ k = 1 ∨ k = 2 ∨ k = 3 ∨ k = 4 ∨ k = 5 ∨ k = 6 ∨ k = 7 ∨ k = 8 ∨ k = 9 ∨ k = 10 := by omega
  rcases this with rfl | rfl | rfl | rfl | rfl | rfl | rfl | rfl | rfl | rfl | rfl <;> simp [wrap64]
theorem atN_get {ws : List Int} {i : Nat} {v : Int} (h : ws[i]? = some v) : atN ws (i : Int) = v := by simp [atN, List.getD, h]
/-- The cells of the copy whose fields are emptied. -/
def BoxN (W : World) (b : Nat) (nm op : ByteArray) (pv wv vv : Int) : Prop :=
  W.cell? ⟨b, 1, none⟩ = some (.string nm) ∧ W.cell? ⟨b, 2, none⟩ = some (.string op) ∧ W.cell? ⟨b, 4, none⟩ = some (.int .i64 pv) ∧ W.cell? ⟨b, 5, none⟩ = some (.int .i64 wv) ∧ W.cell? ⟨b, 6, none⟩ = some (.int .i64 vv) ∧
  W.frozen? ⟨b, 1, none⟩ = false ∧ W.frozen? ⟨b, 2, none⟩ = false ∧ W.frozen? ⟨b, 4, none⟩ = false ∧ W.frozen? ⟨b, 5, none⟩ = false ∧ W.frozen? ⟨b, 6, none⟩ = false
theorem boxN_new (w : World) (l : Ln) (pa : Option Addr) (pc : Nat) : BoxN (w.alloc (lineObj l pa pc)) w.heap.size l.name l.op l.party l.width l.value := by
  have h := heap_alloc_new w (lineObj l pa pc)
  have c := fun j => cell_of_row (w.alloc (lineObj l pa pc)) w.heap.size j _ _ (0, 0) h
  have f := fun j => frozen_of_row (w.alloc (lineObj l pa pc)) w.heap.size j _ _ h
  refine ⟨?_, ?_, ?_, ?_, ?_, f 1, f 2, f 4, f 5, f 6⟩ <;> rw [c] <;> rfl
theorem BoxN.below {W W' : World} {b C : Nat} {nm op : ByteArray} {pv wv vv : Int} (h : BoxN W b nm op pv wv vv) (hb : Below C W W') (hC : b < C) : BoxN W' b nm op pv wv vv :=
  ⟨(hb.cell (p := ⟨b, 1, none⟩) hC).trans h.1, (hb.cell (p := ⟨b, 2, none⟩) hC).trans h.2.1, (hb.cell (p := ⟨b, 4, none⟩) hC).trans h.2.2.1, (hb.cell (p := ⟨b, 5, none⟩) hC).trans h.2.2.2.1, (hb.cell (p := ⟨b, 6, none⟩) hC).trans h.2.2.2.2.1,
   (hb.frozen (p := ⟨b, 1, none⟩) hC).trans h.2.2.2.2.2.1, (hb.frozen (p := ⟨b, 2, none⟩) hC).trans h.2.2.2.2.2.2.1, (hb.frozen (p := ⟨b, 4, none⟩) hC).trans h.2.2.2.2.2.2.2.1, (hb.frozen (p := ⟨b, 5, none⟩) hC).trans h.2.2.2.2.2.2.2.2.1, (hb.frozen (p := ⟨b, 6, none⟩) hC).trans h.2.2.2.2.2.2.2.2.2⟩
end Go.Proofs.YtdlddkgmjpmenaaGreatDoor
/-
  The language: the program's width of the result of an operation. (strings.Index and what it calls, at a text of one byte: lines of the shelf's worked contracts, turned to this program.)
-/
namespace Go.Proofs.YtdlddkgmjpmenaaGreatDoor
open Go.RowKit
set_option linter.unusedVariables false
set_option linter.unusedSimpArgs false

set_option maxHeartbeats 1000000 in
set_option maxRecDepth 100000 in
theorem indexByte_any (s : ByteArray) (c : Int) (w : World) :
    Calls Tryz.prog 126 #[.string s, .int .u8 c] w fun e w' => e = .returned (.int .i64 (Lib.indexByte s.data.toList c.toNat.toUInt8)) ∧ w = w' := by
  go_enter Tryz.func126, Tryz.ntmps126
  go_wp2
  rw [run_callFunc_extern Tryz.func139 (by kernel_rfl) (by kernel_rfl) (by kernel_rfl) (e := Extern.BytealgIndexByte.indexByte) (by kernel_rfl), Lib.run_indexByteString]
  simp only [Result.andThen]
  rw [Oper.upon_value]
  go_wp2
  go_ret
  exact ⟨rfl, rfl⟩
set_option maxHeartbeats 2000000 in
set_option maxRecDepth 100000 in
theorem index1_any (s : ByteArray) (c : UInt8) (w : World) :
    Calls Tryz.prog 114 #[.string s, .string ⟨#[c]⟩] w fun e w' => e = .returned (.int .i64 (Lib.indexByte s.data.toList c)) ∧ w = w' := by
  go_enter Tryz.func114, Tryz.ntmps114
  go_wp2_with (go_at_call 126; refine (indexByte_any _ _ _).mono ?_; rintro e w' ⟨rfl, rfl⟩)
  · have h : ([c] == s.toList) = true := by assumption
    go_ret
    refine ⟨?_, rfl⟩
    have e : s.data.toList = [c] := by rw [← Lib.toList_data]; exact (beq_iff_eq.1 h).symm
    rw [e]
    simp [Lib.indexByte]
  · go_ret
    exact ⟨rfl, rfl⟩
set_option maxHeartbeats 1000000 in
theorem sindex1_any (s : ByteArray) (c : UInt8) (w : World) :
    Calls Tryz.prog 89 #[.string s, .string ⟨#[c]⟩] w fun e w' => e = .returned (.int .i64 (Lib.indexByte s.data.toList c)) ∧ w = w' := by
  go_enter Tryz.func89, Tryz.ntmps89
  go_wp2_with (go_at_call 114; refine (index1_any _ _ _).mono ?_; rintro e w' ⟨rfl, rfl⟩)
  go_ret
  exact ⟨rfl, rfl⟩
set_option maxHeartbeats 1000000 in
theorem contains1_any (s : ByteArray) (c : UInt8) (w : World) :
    Calls Tryz.prog 120 #[.string s, .string ⟨#[c]⟩] w fun e w' => e = .returned (.bool (decide (0 ≤ Lib.indexByte s.data.toList c))) ∧ w = w' := by
  go_enter Tryz.func120, Tryz.ntmps120
  go_wp2_with (go_at_call 89; refine (sindex1_any _ _ _).mono ?_; rintro e w' ⟨rfl, rfl⟩)
  go_ret
  exact ⟨rfl, rfl⟩
def opsBytes : List UInt8 := [43, 45, 42, 60, 61, 38, 124, 94]
theorem indexByte_mem (c : UInt8) : ∀ l : List UInt8, decide (0 ≤ Lib.indexByte l c) = l.contains c
  | [] => rfl
  | b :: l => by
    have ih := indexByte_mem c l
    have hg := Lib.indexByte_ge l c
    rw [Lib.indexByte, List.contains_cons]
    by_cases h : b = c
    · subst h; simp
    · have h1 : (b == c) = false := by simpa using h
      have h2 : (c == b) = false := by simpa using Ne.symm h
      rw [h1, h2, ← ih]
      simp only [Bool.false_eq_true, if_false, Bool.false_or]
      by_cases h3 : Lib.indexByte l c = -1
      · simp [h3]
      · have h4 : (Lib.indexByte l c == -1) = false := by simpa using h3
        rw [h4]
        simp only [Bool.false_eq_true, if_false]
        congr 1
        apply propext
        constructor <;> intro _ <;> omega
theorem opB_beq (a b : UInt8) : (opB a == opB b) = (a == b) := by
  by_cases h : a = b
  · subst h; simp
  · have h1 : opB a ≠ opB b := by
      intro e
      apply h
      have := congrArg (fun x : ByteArray => x.data.toList) e
      simpa [opB] using this
    rw [bytes_beq_no.2 h1]; symm; simpa using h
theorem ops_contains (c : UInt8) : opsL.contains (opB c) = decide (0 ≤ Lib.indexByte opsBytes c) := by
  rw [indexByte_mem]
  simp only [opsL, opsBytes, List.contains_cons, List.contains_nil, opB_beq]
def opsText : ByteArray := ⟨#[43, 45, 42, 60, 61, 38, 124, 94]⟩
theorem containsOps_any (c : UInt8) (w : World) :
    Calls Tryz.prog 120 #[.string ⟨#[43, 45, 42, 60, 61, 38, 124, 94]⟩, .string ⟨#[c]⟩] w fun e w' => e = .returned (.bool (decide (0 ≤ Lib.indexByte opsBytes c))) ∧ w = w' :=
  contains1_any _ _ _
theorem one_byte {s : ByteArray} (h : s.size = 1) : ∃ c, s = opB c := by
  obtain ⟨⟨l⟩⟩ := s
  match l, h with
  | [c], _ => exact ⟨c, rfl⟩
  | [], h => simp [ByteArray.size] at h
  | _ :: _ :: _, h => simp [ByteArray.size] at h
theorem ops_size {op : ByteArray} (h : op.size ≠ 1) : opsL.contains op = false := by
  cases hc : opsL.contains op
  · rfl
  · exfalso
    simp only [opsL, List.contains_cons, List.contains_nil, Bool.or_eq_true, bytes_beq, Bool.or_false] at hc
    apply h
    rcases hc with rfl | rfl | rfl | rfl | rfl | rfl | rfl | rfl <;> rfl
theorem ops_cases {op : ByteArray} (h : opsL.contains op = true) : op = opB 42 ∨ (op = opB 60 ∨ op = opB 61) ∨ (op = opB 43 ∨ op = opB 45 ∨ op = opB 38 ∨ op = opB 124 ∨ op = opB 94) := by
  simp only [opsL, List.contains_cons, List.contains_nil, Bool.or_eq_true, bytes_beq, Bool.or_false] at h
  rcases h with rfl | rfl | rfl | rfl | rfl | rfl | rfl | rfl <;> simp
set_option maxRecDepth 100000 in
set_option maxHeartbeats 4000000 in
theorem resultWidth_any (w : World) (op : ByteArray) (a : Int) (ha : 0 ≤ a ∧ a ≤ 10) :
    Calls Tryz.prog 103 #[.string op, .int .i64 a] w fun e w' => e = .returned (.int .i64 (resW op a)) ∧ w = w' := by
  by_cases hs : op.size = 1
  rotate_left
  · have hs' : ((op.size : Int) != 1) = true := by simp; omega
    have HF : Hid (resW op a = 0) := by show _ = _; unfold resW; rw [ops_size hs]; simp
    go_enter Tryz.func103, Tryz.ntmps103
    go_wp2_with fail
    go_ret
    exact ⟨ret_int HF.out.symm, rfl⟩
  obtain ⟨c, rfl⟩ := one_byte hs
  cases hop : opsL.contains (opB c)
  · have HF : Hid (resW (opB c) a = 0) := by show _ = _; unfold resW; rw [hop]; simp
    have HI : Hid (decide (0 ≤ Lib.indexByte opsBytes c) = false) := by show _ = _; rw [← ops_contains, hop]
    clear hop
    unfold opB at hs HF ⊢
    go_enter Tryz.func103, Tryz.ntmps103
    go_wp2_with (go_at_call 120; refine (containsOps_any _ _).mono ?_; rintro e w' ⟨rfl, rfl⟩; rw [HI.out])
    go_ret
    exact ⟨ret_int HF.out.symm, rfl⟩
  rcases ops_cases hop with h | h | h
  · clear hs
    rw [h] at hop ⊢
    have HI : Hid (decide (0 ≤ Lib.indexByte opsBytes 42) = true) := rfl
    clear hop h
    by_cases h10 : 2 * a > 10
    · have HF : Hid (resW (opB 42) a = 0) := by show _ = _; unfold resW; simp [opsL, h10]
      unfold opB at HF ⊢
      go_enter Tryz.func103, Tryz.ntmps103
      go_wp2_with (go_at_call 120; refine (containsOps_any _ _).mono ?_; rintro e w' ⟨rfl, rfl⟩; rw [HI.out])
      go_ret
      exact ⟨ret_int HF.out.symm, rfl⟩
    · have h10' : ¬ (10 : Int) < 2 * a := by omega
      have HF : Hid (resW (opB 42) a = 2 * a) := by show _ = _; unfold resW; simp [opsL, h10']
      unfold opB at HF ⊢
      go_enter Tryz.func103, Tryz.ntmps103
      go_wp2_with (go_at_call 120; refine (containsOps_any _ _).mono ?_; rintro e w' ⟨rfl, rfl⟩; rw [HI.out])
      go_ret
      exact ⟨ret_int HF.out.symm, rfl⟩
  · clear hs
    rcases h with h | h
    · rw [h] at hop ⊢
      have HI : Hid (decide (0 ≤ Lib.indexByte opsBytes 60) = true) := rfl
      clear hop h
      have HF : Hid (resW (opB 60) a = 1) := by show _ = _; unfold resW; simp [opsL, opB_beq]
      unfold opB at HF ⊢
      go_enter Tryz.func103, Tryz.ntmps103
      go_wp2_with (go_at_call 120; refine (containsOps_any _ _).mono ?_; rintro e w' ⟨rfl, rfl⟩; rw [HI.out])
      go_ret
      exact ⟨ret_int HF.out.symm, rfl⟩
    · rw [h] at hop ⊢
      have HI : Hid (decide (0 ≤ Lib.indexByte opsBytes 61) = true) := rfl
      clear hop h
      have HF : Hid (resW (opB 61) a = 1) := by show _ = _; unfold resW; simp [opsL, opB_beq]
      unfold opB at HF ⊢
      go_enter Tryz.func103, Tryz.ntmps103
      go_wp2_with (go_at_call 120; refine (containsOps_any _ _).mono ?_; rintro e w' ⟨rfl, rfl⟩; rw [HI.out])
      go_ret
      exact ⟨ret_int HF.out.symm, rfl⟩
  · clear hs
    rcases h with h | h | h | h | h
    · rw [h] at hop ⊢
      have HI : Hid (decide (0 ≤ Lib.indexByte opsBytes 43) = true) := rfl
      clear hop h
      have HF : Hid (resW (opB 43) a = a) := by show _ = _; unfold resW; simp [opsL, opB_beq]
      unfold opB at HF ⊢
      go_enter Tryz.func103, Tryz.ntmps103
      go_wp2_with (go_at_call 120; refine (containsOps_any _ _).mono ?_; rintro e w' ⟨rfl, rfl⟩; rw [HI.out])
      go_ret
      exact ⟨ret_int HF.out.symm, rfl⟩
    · rw [h] at hop ⊢
      have HI : Hid (decide (0 ≤ Lib.indexByte opsBytes 45) = true) := rfl
      clear hop h
      have HF : Hid (resW (opB 45) a = a) := by show _ = _; unfold resW; simp [opsL, opB_beq]
      unfold opB at HF ⊢
      go_enter Tryz.func103, Tryz.ntmps103
      go_wp2_with (go_at_call 120; refine (containsOps_any _ _).mono ?_; rintro e w' ⟨rfl, rfl⟩; rw [HI.out])
      go_ret
      exact ⟨ret_int HF.out.symm, rfl⟩
    · rw [h] at hop ⊢
      have HI : Hid (decide (0 ≤ Lib.indexByte opsBytes 38) = true) := rfl
      clear hop h
      have HF : Hid (resW (opB 38) a = a) := by show _ = _; unfold resW; simp [opsL, opB_beq]
      unfold opB at HF ⊢
      go_enter Tryz.func103, Tryz.ntmps103
      go_wp2_with (go_at_call 120; refine (containsOps_any _ _).mono ?_; rintro e w' ⟨rfl, rfl⟩; rw [HI.out])
      go_ret
      exact ⟨ret_int HF.out.symm, rfl⟩
    · rw [h] at hop ⊢
      have HI : Hid (decide (0 ≤ Lib.indexByte opsBytes 124) = true) := rfl
      clear hop h
      have HF : Hid (resW (opB 124) a = a) := by show _ = _; unfold resW; simp [opsL, opB_beq]
      unfold opB at HF ⊢
      go_enter Tryz.func103, Tryz.ntmps103
      go_wp2_with (go_at_call 120; refine (containsOps_any _ _).mono ?_; rintro e w' ⟨rfl, rfl⟩; rw [HI.out])
      go_ret
      exact ⟨ret_int HF.out.symm, rfl⟩
    · rw [h] at hop ⊢
      have HI : Hid (decide (0 ≤ Lib.indexByte opsBytes 94) = true) := rfl
      clear hop h
      have HF : Hid (resW (opB 94) a = a) := by show _ = _; unfold resW; simp [opsL, opB_beq]
      unfold opB at HF ⊢
      go_enter Tryz.func103, Tryz.ntmps103
      go_wp2_with (go_at_call 120; refine (containsOps_any _ _).mono ?_; rintro e w' ⟨rfl, rfl⟩; rw [HI.out])
      go_ret
      exact ⟨ret_int HF.out.symm, rfl⟩
end Go.Proofs.YtdlddkgmjpmenaaGreatDoor
/-
  The language: what the program's width of a line leans on.
-/
namespace Go.Proofs.YtdlddkgmjpmenaaGreatDoor
open Go.RowKit
set_option linter.unusedVariables false
set_option linter.unusedSimpArgs false

def lineV (l : Ln) (pa : Option Addr) (pc : Nat) : Value := .agg #[.int .i64 l.kind, .string l.name, .string l.op, .slice pa l.parts.length pc, .int .i64 l.party, .int .i64 l.width, .int .i64 l.value]
/-- The block of the line that is due. -/
def dueObj (l : Ln) (pa : Option Addr) (pc : Nat) : Obj := .cells #[.int .i64 l.kind, .string l.name, .string ⟨#[]⟩, .slice pa l.parts.length pc, .int .i64 0, .int .i64 0, .int .i64 0] 47
theorem boxD_new (w : World) (l : Ln) (pa : Option Addr) (pc : Nat) : BoxN (w.alloc (dueObj l pa pc)) w.heap.size l.name ⟨#[]⟩ 0 0 0 := by
  have h := heap_alloc_new w (dueObj l pa pc)
  have c := fun j => cell_of_row (w.alloc (dueObj l pa pc)) w.heap.size j _ _ (0, 0) h
  have f := fun j => frozen_of_row (w.alloc (dueObj l pa pc)) w.heap.size j _ _ h
  refine ⟨?_, ?_, ?_, ?_, ?_, f 1, f 2, f 4, f 5, f 6⟩ <;> rw [c] <;> rfl
theorem BoxL.far {W : World} {b : Nat} {l : Ln} {pa : Option Addr} {pc : Nat} (h : BoxL W b l pa pc) (p : Addr) (v : Value) (hp : p.block ≠ b) : BoxL (W.setCell p v) b l pa pc :=
  ⟨(World.cell?_setCell_far _ _ _ _ hp).trans h.1, (World.cell?_setCell_far _ _ _ _ hp).trans h.2.1, (World.cell?_setCell_far _ _ _ _ hp).trans h.2.2.1, (World.cell?_setCell_far _ _ _ _ hp).trans h.2.2.2.1, (World.cell?_setCell_far _ _ _ _ hp).trans h.2.2.2.2.1, (World.cell?_setCell_far _ _ _ _ hp).trans h.2.2.2.2.2.1, (World.cell?_setCell_far _ _ _ _ hp).trans h.2.2.2.2.2.2⟩
theorem BoxN.set2 {W : World} {b : Nat} {nm op : ByteArray} {pv wv vv : Int} (h : BoxN W b nm op pv wv vv) (s : ByteArray) : BoxN (W.setCell ⟨b, 2, none⟩ (.string s)) b nm s pv wv vv :=
  ⟨(World.cell?_setCell_other _ _ _ _ (by simp)).trans h.1, World.cell?_setCell_same _ _ _ h.2.1, (World.cell?_setCell_other _ _ _ _ (by simp)).trans h.2.2.1, (World.cell?_setCell_other _ _ _ _ (by simp)).trans h.2.2.2.1, (World.cell?_setCell_other _ _ _ _ (by simp)).trans h.2.2.2.2.1, (World.frozen?_setCell _ _ _ _).trans h.2.2.2.2.2.1, (World.frozen?_setCell _ _ _ _).trans h.2.2.2.2.2.2.1, (World.frozen?_setCell _ _ _ _).trans h.2.2.2.2.2.2.2.1, (World.frozen?_setCell _ _ _ _).trans h.2.2.2.2.2.2.2.2.1, (World.frozen?_setCell _ _ _ _).trans h.2.2.2.2.2.2.2.2.2⟩
theorem BoxN.set4 {W : World} {b : Nat} {nm op : ByteArray} {pv wv vv : Int} (h : BoxN W b nm op pv wv vv) (s : Int) : BoxN (W.setCell ⟨b, 4, none⟩ (.int .i64 s)) b nm op s wv vv :=
  ⟨(World.cell?_setCell_other _ _ _ _ (by simp)).trans h.1, (World.cell?_setCell_other _ _ _ _ (by simp)).trans h.2.1, World.cell?_setCell_same _ _ _ h.2.2.1, (World.cell?_setCell_other _ _ _ _ (by simp)).trans h.2.2.2.1, (World.cell?_setCell_other _ _ _ _ (by simp)).trans h.2.2.2.2.1, (World.frozen?_setCell _ _ _ _).trans h.2.2.2.2.2.1, (World.frozen?_setCell _ _ _ _).trans h.2.2.2.2.2.2.1, (World.frozen?_setCell _ _ _ _).trans h.2.2.2.2.2.2.2.1, (World.frozen?_setCell _ _ _ _).trans h.2.2.2.2.2.2.2.2.1, (World.frozen?_setCell _ _ _ _).trans h.2.2.2.2.2.2.2.2.2⟩
theorem BoxN.set5 {W : World} {b : Nat} {nm op : ByteArray} {pv wv vv : Int} (h : BoxN W b nm op pv wv vv) (s : Int) : BoxN (W.setCell ⟨b, 5, none⟩ (.int .i64 s)) b nm op pv s vv :=
  ⟨(World.cell?_setCell_other _ _ _ _ (by simp)).trans h.1, (World.cell?_setCell_other _ _ _ _ (by simp)).trans h.2.1, (World.cell?_setCell_other _ _ _ _ (by simp)).trans h.2.2.1, World.cell?_setCell_same _ _ _ h.2.2.2.1, (World.cell?_setCell_other _ _ _ _ (by simp)).trans h.2.2.2.2.1, (World.frozen?_setCell _ _ _ _).trans h.2.2.2.2.2.1, (World.frozen?_setCell _ _ _ _).trans h.2.2.2.2.2.2.1, (World.frozen?_setCell _ _ _ _).trans h.2.2.2.2.2.2.2.1, (World.frozen?_setCell _ _ _ _).trans h.2.2.2.2.2.2.2.2.1, (World.frozen?_setCell _ _ _ _).trans h.2.2.2.2.2.2.2.2.2⟩
theorem BoxN.set6 {W : World} {b : Nat} {nm op : ByteArray} {pv wv vv : Int} (h : BoxN W b nm op pv wv vv) (s : Int) : BoxN (W.setCell ⟨b, 6, none⟩ (.int .i64 s)) b nm op pv wv s :=
  ⟨(World.cell?_setCell_other _ _ _ _ (by simp)).trans h.1, (World.cell?_setCell_other _ _ _ _ (by simp)).trans h.2.1, (World.cell?_setCell_other _ _ _ _ (by simp)).trans h.2.2.1, (World.cell?_setCell_other _ _ _ _ (by simp)).trans h.2.2.2.1, World.cell?_setCell_same _ _ _ h.2.2.2.2.1, (World.frozen?_setCell _ _ _ _).trans h.2.2.2.2.2.1, (World.frozen?_setCell _ _ _ _).trans h.2.2.2.2.2.2.1, (World.frozen?_setCell _ _ _ _).trans h.2.2.2.2.2.2.2.1, (World.frozen?_setCell _ _ _ _).trans h.2.2.2.2.2.2.2.2.1, (World.frozen?_setCell _ _ _ _).trans h.2.2.2.2.2.2.2.2.2⟩
theorem below_set {C : Nat} {w w' : World} (h : Below C w w') (p : Addr) (v : Value) (hp : C ≤ p.block) : Below C w (w'.setCell p v) := by
  obtain ⟨b, o, s⟩ := p
  exact Below.setCell h hp v
end Go.Proofs.YtdlddkgmjpmenaaGreatDoor
/-
  The language: the program's look-up of a name.
-/
namespace Go.Proofs.YtdlddkgmjpmenaaGreatDoor
open Go.RowKit
set_option linter.unusedVariables false
set_option linter.unusedSimpArgs false

theorem lineOf1_any (w : World) (l : Ln) (pa : Option Addr) (pc nb : Nat) (name : ByteArray) (hc : w.cell? ⟨nb, 0, none⟩ = some (.string name)) (hnb : nb < w.heap.size) :
    Calls Tryz.prog 80 #[lineV l pa pc, .pointer (some ⟨nb, 0, none⟩)] w fun e w' => e = .returned (.bool (lineB name l)) ∧ Below w.heap.size w w' := by
  obtain ⟨W2, hW2⟩ : ∃ W2, W2 = w.alloc (lineObj l pa pc) := ⟨_, rfl⟩
  have hal : Below w.heap.size w W2 := by rw [hW2]; exact (Below.refl _ _).alloc (Nat.le_refl _) _
  have hbx : BoxL W2 w.heap.size l pa pc := by rw [hW2]; exact boxL_new _ _ _ _
  have HW2 := Lib.hid hW2
  clear hW2
  have hc2 : W2.cell? ⟨nb, 0, none⟩ = some (.string name) := (hal.cell (p := ⟨nb, 0, none⟩) hnb).trans hc
  obtain ⟨e0, e1, e2, e3, e4, e5, e6⟩ := hbx
  unfold lineObj at HW2
  unfold lineV
  by_cases hn : l.name = name
  · have sb := seq_yes hn
    have HF : Hid (lineB name l = true) := by show _ = _; simp [lineB, hn]
    clear hn
    go_enter Tryz.func80, Tryz.ntmps80
    go_wp2_with (rw [← HW2.out])
    go_ret
    exact ⟨ret_bool HF.out.symm, hal⟩
  · have sb := seq_no hn
    have HF : Hid (lineB name l = false) := by show _ = _; rw [lineB, bytes_beq_no.2 hn]
    go_enter Tryz.func80, Tryz.ntmps80
    go_wp2_with (rw [← HW2.out])
    go_ret
    exact ⟨ret_bool HF.out.symm, hal⟩
def idxL (name : ByteArray) (ls : List Ln) : Int := match ls.findIdx? (lineB name) with | some i => (i : Int) | none => -1
theorem indexFuncL_any (w : World) (B : Nat) (ao : Option Addr) (n c nb : Nat) (ls : List Ln) (name : ByteArray) (h : Lns w B ao n ls) (hB : B ≤ w.heap.size) (hc : w.cell? ⟨nb, 0, none⟩ = some (.string name)) (hnb : nb < w.heap.size) :
    Calls Tryz.prog 79 #[.slice ao n c, .func (.func 80) #[] #[.pointer (some ⟨nb, 0, none⟩)]] w (RetN (idxL name ls) w) := by
  have hn := h.le
  have hl := Lib.hid h.1
  have hen : ∀ (args : Array Value) (W : World), (callFunc 80 args).run Tryz.prog W = .ok (.enter 80 args) W := fun _ _ => by kernel_rfl
  go_enter Tryz.func79, Tryz.ntmps79
  go_wp2
  go_loopw [8] (fun i wr => ∃ k : Nat, k ≤ n ∧ i = .int .i64 k ∧ Hid (∀ (j : Nat) (y : Ln), j < k → ls[j]? = some y → lineB name y = false) ∧ Below w.heap.size w wr) (fun i _ => n - (intOf i).toNat)
  case atStart => exact ⟨0, Nat.zero_le _, rfl, by intro j y hj; omega, Below.refl _ _⟩
  case round =>
    obtain ⟨k, hk, rfl, hlow, hbel⟩ := hrel
    by_cases hlt : k < n
    · obtain ⟨b, o, l, pa, pc, rfl, hb, hx, hps, g0, g1, g2, g3, g4, g5, g6⟩ := (h.below hbel hB).at hlt
      have HX := Lib.hid hx
      have HC := Lib.hid (lineOf1_any wr l pa pc nb name ((hbel.cell (p := ⟨nb, 0, none⟩) hnb).trans hc) (Nat.lt_of_lt_of_le hnb hbel.size))
      unfold lineV at HC
      clear hx
      cases hpx : lineB name l
      · have HP := Lib.hid hpx
        clear hpx
        go_wp2_with (with_reducible refine (HC.out).mono ?_; rintro e w1 ⟨rfl, hbx⟩; rw [HP.out])
        go_roundw
        case rel => exact ⟨k + 1, by omega, by go_num, by
          intro j y hj hy
          by_cases he : j = k
          · subst he; rw [HX.out] at hy; simp at hy; rw [← hy]; exact HP.out
          · exact hlow.out j y (by omega) hy, hbel.trans (hbx.mono hbel.size)⟩
        case measure => simp [intOf] <;> omega
      · have HP := Lib.hid hpx
        clear hpx
        go_wp2_with (with_reducible refine (HC.out).mono ?_; rintro e w1 ⟨rfl, hbx⟩; rw [HP.out])
        go_ret
        exact ⟨ret_int (by rw [idxL, findIdx_some HX.out HP.out hlow.out]), hbel.trans (hbx.mono hbel.size)⟩
    · obtain rfl : k = n := by omega
      go_wp2
      go_ret
      exact ⟨ret_int (by rw [idxL, findIdx_none fun j y hy => hlow.out j y (by rw [← hl.out]; exact (List.getElem?_eq_some_iff.1 hy).1) hy]), hbel⟩
theorem lineOf_any (w : World) (B : Nat) (ao : Option Addr) (n c : Nat) (ls : List Ln) (name : ByteArray) (h : Lns w B ao n ls) (hB : B ≤ w.heap.size) :
    Calls Tryz.prog 47 #[.slice ao n c, .string name] w (RetN (lineF ls name) w) := by
  obtain ⟨W2, hW2⟩ : ∃ W2, W2 = w.alloc (.cells #[.string name] 9) := ⟨_, rfl⟩
  have hal : Below w.heap.size w W2 := by rw [hW2]; exact (Below.refl _ _).alloc (Nat.le_refl _) _
  have hcell : W2.cell? ⟨w.heap.size, 0, none⟩ = some (.string name) := by
    rw [hW2, cell_of_row _ w.heap.size 0 _ _ (0, 0) (heap_alloc_new w _)]; rfl
  have hsz : w.heap.size < W2.heap.size := by rw [hW2]; simp
  have HW2 := Lib.hid hW2
  clear hW2
  have h2 := h.below hal hB
  by_cases hn : name = ByteArray.empty
  · have sb : (name.toList == []) = true := by rw [hn, empty_list]; rfl
    have HF : Hid (lineF ls name = -1) := by show _ = _; unfold lineF; rw [if_pos (by rw [hn]; simp)]
    clear hn
    go_enter Tryz.func47, Tryz.ntmps47
    go_wp2_with (rw [← HW2.out])
    go_ret
    exact ⟨ret_int HF.out.symm, hal⟩
  · have sb : (name.toList == []) = false := by rw [← empty_list]; exact seq_no hn
    have HF : Hid (lineF ls name = idxL name ls) := by show _ = _; unfold lineF; rw [if_neg (by rw [bytes_beq]; exact hn)]; rfl
    go_enter Tryz.func47, Tryz.ntmps47
    go_wp2_with (rw [← HW2.out])
    refine (indexFuncL_any _ B _ _ _ _ _ _ h2 (Nat.le_trans hB hal.size) hcell hsz).mono ?_
    rintro e w1 ⟨rfl, hb1⟩
    go_wp2_with fail
    go_ret
    exact ⟨ret_int HF.out.symm, hal.trans (hb1.mono hal.size)⟩
end Go.Proofs.YtdlddkgmjpmenaaGreatDoor
