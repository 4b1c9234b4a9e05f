/-
  The language: lines as data, the widths of a program both ways, and that both ways agree.
-/
import Derived.Test.YtdlddkgmjpmenaaGreatDoorHB
import Derived.Laws.StructEq
namespace Go.Proofs.YtdlddkgmjpmenaaGreatDoor
open Go.RowKit
set_option linter.unusedVariables false
set_option linter.unusedSimpArgs false

/-- A line of a program. -/
structure Ln where
  kind : Int
  name : ByteArray
  op : ByteArray
  parts : List ByteArray
  party : Int
  width : Int
  value : Int

theorem bytes_ext {a b : ByteArray} (h : a.toList = b.toList) : a = b := by
  rw [ByteArray.toList_eq, ByteArray.toList_eq] at h
  obtain ⟨⟨x⟩⟩ := a
  obtain ⟨⟨y⟩⟩ := b
  simp at h
  rw [h]
theorem bytes_beq {a b : ByteArray} : (a == b) = true ↔ a = b := by
  rw [beq_toListBytes, beq_iff_eq]
  exact ⟨bytes_ext, fun h => by rw [h]⟩
instance : LawfulBEq ByteArray where
  eq_of_beq h := bytes_beq.1 h
  rfl := bytes_beq.2 rfl
theorem bytes_beq_no {a b : ByteArray} : (a == b) = false ↔ a ≠ b := by
  rw [← Bool.not_eq_true, bytes_beq]
def letterB (c : UInt8) : Bool := decide (97 ≤ c.toNat) && decide (c.toNat ≤ 122)
def nameB (s : ByteArray) : Bool := s.data.toList.all letterB && inB (s.size : Int) 1 6
/-- The first line that gives a name: the reference's way. -/
def findB (name : ByteArray) (x : Ln) : Bool := x.kind != 6 && x.name == name
def findF (ls : List Ln) (name : ByteArray) : Int := match ls.findIdx? (findB name) with | some i => (i : Int) | none => -1
/-- .. the program's way. -/
def lineB (name : ByteArray) (x : Ln) : Bool := x.name == name
def lineF (ls : List Ln) (name : ByteArray) : Int := if name == ByteArray.empty then -1 else match ls.findIdx? (lineB name) with | some i => (i : Int) | none => -1
def atN (ws : List Int) (k : Int) : Int := ws.getD k.toNat 0
/-- The widths of parts, none if a part is missing. -/
def partsBy (find : ByteArray → Int) (ws : List Int) : List ByteArray → Option (List Int)
  | [] => some []
  | p :: r => if find p < 0 then none else (partsBy find ws r).map (atN ws (find p) :: ·)
def opB (c : UInt8) : ByteArray := ⟨#[c]⟩
def opsL : List ByteArray := [opB 43, opB 45, opB 42, opB 60, opB 61, opB 38, opB 124, opB 94]
def laTwo (op : ByteArray) (w v : Int) : Int :=
  if (w != v || (!opsL.contains op || (op == opB 42 && decide (2 * w > 10)))) = true then 0 else if (op == opB 42) = true then 2 * w else if (op == opB 60 || op == opB 61) = true then 1 else w
def laParts (k : Int) : Int := if k = 3 then 2 else if k = 4 ∨ k = 6 then 1 else if k = 5 then 3 else 0
/-- Fields that a kind of lines has not are empty. -/
def fieldsB (x : Ln) : Bool :=
  (x.kind != 6 || x.name == ByteArray.empty) && ((x.kind == 3 || x.op == ByteArray.empty) && ((x.kind == 1 || x.party == 0) && ((x.kind == 1 || x.kind == 2 || x.width == 0) && (x.kind == 2 || x.value == 0))))
def kindW (x : Ln) (w : List Int) : Int :=
  if x.kind = 1 then (if (inB x.party 0 1 && inB x.width 1 10) = true then x.width else 0)
  else if x.kind = 2 then (if (inB x.width 1 10 && inB x.value 0 (2 ^ x.width.toNat - 1)) = true then x.width else 0)
  else if x.kind = 3 then laTwo x.op (atN w 0) (atN w 1)
  else if x.kind = 4 ∨ x.kind = 6 then atN w 0
  else if x.kind = 5 then (if (atN w 0 == 1 && atN w 1 == atN w 2) = true then atN w 1 else 0)
  else 0
def laWidth (ls : List Ln) (ws : List Int) (x : Ln) : Int :=
  match partsBy (findF ls) ws x.parts with
  | none => 0
  | some w => if (x.kind != 6 && (!nameB x.name || decide (0 ≤ findF ls x.name))) = true then 0 else if (!fieldsB x || (w.length : Int) != laParts x.kind) = true then 0 else kindW x w
/-- The widths of the lines behind 'done', whose widths are ws. -/
def laWidthsFrom (done : List Ln) (ws : List Int) : List Ln → List Int
  | [] => ws
  | x :: r => laWidthsFrom (done ++ [x]) (ws ++ [laWidth done ws x]) r
def laWidths (ls : List Ln) : List Int := laWidthsFrom [] [] ls
def inputsL (ls : List Ln) (p : Int) : List Int := (ls.filter fun x => x.kind == 1 && x.party == p).map (·.width)
def outsW (ls : List Ln) (ws : List Int) : List Int := ((ls.zip ws).filter fun x => x.1.kind == 6).map (·.2)
def sumL' (l : List Int) : Int := l.foldl (· + ·) 0
def laGoodF (ls : List Ln) : Bool :=
  decide (ls.length ≤ 30) && ((laWidths ls).all (fun w => inB w 1 10) && (decide (sumL' (inputsL ls 0) ≤ 20) && (decide (sumL' (inputsL ls 1) ≤ 20) && decide ((outsW ls (laWidths ls)).length ≤ 10))))
/-- The program's way: the width of a line, 0 if it is not valid. -/
def resW (op : ByteArray) (w : Int) : Int :=
  if (!opsL.contains op) = true then 0 else if (op == opB 42 && decide (2 * w > 10)) = true then 0 else if (op == opB 42) = true then 2 * w else if (op == opB 60 || op == opB 61) = true then 1 else w
def lnWidth (x : Ln) (w : List Int) : Int :=
  if x.kind = 1 ∧ (!inB x.party 0 1 || !inB x.width 1 10) = true then 0
  else if x.kind = 2 ∧ (!inB x.width 1 10 || !inB x.value 0 (2 ^ x.width.toNat - 1)) = true then 0
  else if ((x.kind == 6) != (x.name == ByteArray.empty) || (x.name != ByteArray.empty && !nameB x.name) || (w.length : Int) != laParts x.kind) = true then 0
  else if (!(x.kind == 3 || x.op == ByteArray.empty) || !(x.kind == 1 || x.party == 0) || !(x.kind == 1 || x.kind == 2 || x.width == 0) || !(x.kind == 2 || x.value == 0)) = true then 0
  else if x.kind = 1 then x.width
  else if x.kind = 2 then x.width
  else if x.kind = 3 then (if (w.length = 2 ∧ atN w 0 = atN w 1) then resW x.op (atN w 0) else 0)
  else if x.kind = 4 ∨ x.kind = 6 then (if w.length = 1 then atN w 0 else 0)
  else if x.kind = 5 then (if (w.length = 3 ∧ atN w 0 = 1 ∧ atN w 1 = atN w 2) then atN w 1 else 0)
  else 0
/-- The program's walk over the lines: widths, bits of both parties, results; none if a line is not valid. -/
def widthsFrom (done : List Ln) (ws : List Int) (b0 b1 outs : Int) : List Ln → Option (List Int × Int × Int × Int)
  | [] => some (ws, b0, b1, outs)
  | x :: r =>
    match partsBy (lineF done) ws x.parts with
    | none => none
    | some w =>
      if lnWidth x w = 0 ∨ (x.name ≠ ByteArray.empty ∧ 0 ≤ lineF done x.name) then none
      else widthsFrom (done ++ [x]) (ws ++ [lnWidth x w]) (if x.kind = 1 ∧ x.party = 0 then b0 + lnWidth x w else b0) (if x.kind = 1 ∧ x.party = 1 then b1 + lnWidth x w else b1) (if x.kind = 6 then outs + 1 else outs) r
/-- What 'widths' returns: the list is nil unless all lines are valid. -/
def widthsF (ls : List Ln) : List Int × Bool :=
  if 30 < ls.length then ([], false) else match widthsFrom [] [] 0 0 0 ls with
  | none => ([], false)
  | some (ws, b0, b1, outs) => (ws, decide (b0 ≤ 20) && (decide (b1 ≤ 20) && decide (outs ≤ 10)))
end Go.Proofs.YtdlddkgmjpmenaaGreatDoor
/-
  The language: both ways to reckon the widths agree.
-/
namespace Go.Proofs.YtdlddkgmjpmenaaGreatDoor
open Go.RowKit
set_option linter.unusedVariables false
set_option linter.unusedSimpArgs false

def okW (ws : List Int) : Prop := ∀ (i : Nat) (x : Int), ws[i]? = some x → 1 ≤ x ∧ x ≤ 10
theorem okW_at {ws : List Int} (h : okW ws) {k : Int} (h0 : 0 ≤ k) (h1 : k < ws.length) : 1 ≤ atN ws k ∧ atN ws k ≤ 10 := by
  obtain ⟨i, rfl⟩ := Int.eq_ofNat_of_zero_le h0
  have hi : i < ws.length := by omega
  unfold atN
  have : ws[i]? = some ws[i] := by simp
  have h2 := h i _ this
  simpa [List.getD, this] using h2
theorem okW_snoc {ws : List Int} (h : okW ws) {x : Int} (hx : 1 ≤ x ∧ x ≤ 10) : okW (ws ++ [x]) := by
  intro i y hy
  by_cases hi : i < ws.length
  · rw [List.getElem?_append_left hi] at hy; exact h i y hy
  · rw [List.getElem?_append_right (by omega)] at hy
    rcases Nat.eq_zero_or_pos (i - ws.length) with h0 | h0
    · rw [h0] at hy; simp at hy; subst hy; exact hx
    · rw [List.getElem?_eq_none (by simp; omega)] at hy; cases hy
/-- Lines whose names fit their kinds. -/
def namedB (x : Ln) : Prop := (x.kind = 6 ↔ x.name = ByteArray.empty) ∧ (x.kind ≠ 6 → nameB x.name = true)
def okP (done : List Ln) (ws : List Int) : Prop := done.length = ws.length ∧ okW ws ∧ ∀ x ∈ done, namedB x
theorem findIdx_congr {α : Type} {p q : α → Bool} : ∀ {l : List α}, (∀ x ∈ l, p x = q x) → l.findIdx? p = l.findIdx? q
  | [], _ => rfl
  | a :: l, h => by
    rw [List.findIdx?_cons, List.findIdx?_cons, h a (by simp), findIdx_congr (l := l) fun x hx => h x (by simp [hx])]
theorem findIdx_no {α : Type} {p : α → Bool} : ∀ {l : List α}, (∀ x ∈ l, p x = false) → l.findIdx? p = none
  | [], _ => rfl
  | a :: l, h => by
    rw [List.findIdx?_cons, h a (by simp), findIdx_no (l := l) fun x hx => h x (by simp [hx])]; rfl
theorem find_agree {done : List Ln} (h : ∀ x ∈ done, namedB x) (name : ByteArray) : findF done name = lineF done name := by
  unfold findF lineF
  by_cases hn : name = ByteArray.empty
  · subst hn
    rw [if_pos (by simp)]
    rw [findIdx_no]
    intro x hx
    obtain ⟨h1, h2⟩ := h x hx
    unfold findB
    by_cases hk : x.kind = 6
    · simp [hk]
    · have : x.name ≠ ByteArray.empty := fun e => hk (h1.2 e)
      rw [bytes_beq_no.2 this, Bool.and_false]
  · rw [if_neg (by rw [bytes_beq]; exact hn)]
    rw [findIdx_congr (q := lineB name)]
    intro x hx
    obtain ⟨h1, h2⟩ := h x hx
    unfold findB lineB
    by_cases hk : x.kind = 6
    · have : x.name ≠ name := by rw [h1.1 hk]; exact fun e => hn e.symm
      rw [bytes_beq_no.2 this, Bool.and_false]
    · have : (x.kind != 6) = true := by simp [hk]
      rw [this, Bool.true_and]
theorem findIdx_lt {α : Type} {p : α → Bool} : ∀ {l : List α} {i : Nat}, l.findIdx? p = some i → i < l.length
  | [], i, h => by simp at h
  | a :: l, i, h => by
    rw [List.findIdx?_cons] at h
    split at h
    · simp at h; subst h; simp
    · cases hh : l.findIdx? p with
      | none => rw [hh] at h; simp at h
      | some j => rw [hh] at h; simp at h; subst h; have := findIdx_lt hh; simp; omega
theorem findF_range (ls : List Ln) (name : ByteArray) : -1 ≤ findF ls name ∧ findF ls name < ls.length := by
  unfold findF
  split
  · next i h => have := findIdx_lt h; omega
  · omega
theorem lineF_range (ls : List Ln) (name : ByteArray) : -1 ≤ lineF ls name ∧ lineF ls name < ls.length := by
  unfold lineF
  split
  · omega
  · split
    · next i h => have := findIdx_lt h; omega
    · omega
theorem partsBy_ok {f : ByteArray → Int} {ws : List Int} (hw : okW ws) (hf : ∀ p, f p < ws.length) : ∀ {ps : List ByteArray} {w : List Int}, partsBy f ws ps = some w → okW w ∧ w.length = ps.length
  | [], w, h => by
    simp [partsBy] at h
    subst h
    exact ⟨fun i x hx => by simp at hx, rfl⟩
  | p :: r, w, h => by
    unfold partsBy at h
    split at h
    · cases h
    · next hp =>
      cases hr : partsBy f ws r with
      | none => rw [hr] at h; simp at h
      | some v =>
        rw [hr] at h
        simp at h
        subst h
        obtain ⟨h1, h2⟩ := partsBy_ok hw hf hr
        refine ⟨?_, by simp [h2]⟩
        intro i x hx
        cases i with
        | zero => simp at hx; subst hx; exact okW_at hw (by omega) (hf p)
        | succ i => simp at hx; exact h1 i x hx
theorem laTwo_ok {op : ByteArray} {w v : Int} (hw : 1 ≤ w ∧ w ≤ 10) : laTwo op w v = 0 ∨ (1 ≤ laTwo op w v ∧ laTwo op w v ≤ 10) := by
  unfold laTwo
  split
  · exact .inl rfl
  · next h =>
    split
    · next h2 =>
      right
      simp [h2] at h
      omega
    · split
      · right; omega
      · right; exact hw
theorem okW_getD {w : List Int} (h : okW w) {k : Nat} (hk : k < w.length) : 1 ≤ atN w k ∧ atN w k ≤ 10 := okW_at h (by omega) (by omega)
theorem kindW_ok {x : Ln} {w : List Int} (hw : okW w) (hl : (w.length : Int) = laParts x.kind) : kindW x w = 0 ∨ (1 ≤ kindW x w ∧ kindW x w ≤ 10) := by
  unfold kindW
  by_cases k1 : x.kind = 1
  · rw [if_pos k1]
    split
    · next h => simp only [Bool.and_eq_true, inB_iff] at h; right; omega
    · exact .inl rfl
  rw [if_neg k1]
  by_cases k2 : x.kind = 2
  · rw [if_pos k2]
    split
    · next h => simp only [Bool.and_eq_true, inB_iff] at h; right; omega
    · exact .inl rfl
  rw [if_neg k2]
  by_cases k3 : x.kind = 3
  · rw [if_pos k3]
    rw [k3] at hl
    exact laTwo_ok (okW_getD hw (k := 0) (by simp [laParts] at hl; omega))
  rw [if_neg k3]
  by_cases k4 : x.kind = 4 ∨ x.kind = 6
  · rw [if_pos k4]
    right
    refine okW_getD hw (k := 0) ?_
    have : laParts x.kind = 1 := by unfold laParts; rw [if_neg k3, if_pos k4]
    omega
  rw [if_neg k4]
  by_cases k5 : x.kind = 5
  · rw [if_pos k5]
    rw [k5] at hl
    split
    · right; exact okW_getD hw (k := 1) (by simp [laParts] at hl; omega)
    · exact .inl rfl
  · rw [if_neg k5]; exact .inl rfl
theorem len_parts {w : List Int} {k : Int} : ((w.length : Int) != laParts k) = false ↔ (w.length : Int) = laParts k := by simp
/-- The two ways at one line. -/
theorem kind_agree {x : Ln} {w : List Int} (hn : namedB x) (hf : fieldsB x = true) (hl : (w.length : Int) = laParts x.kind) : lnWidth x w = kindW x w := by
  obtain ⟨n1, n2⟩ := hn
  unfold fieldsB at hf
  simp only [Bool.and_eq_true] at hf
  obtain ⟨f1, f2, f3, f4, f5⟩ := hf
  have hne : ((x.kind == 6) != (x.name == ByteArray.empty)) = false := by
    by_cases hk : x.kind = 6
    · have := n1.1 hk
      simp [hk, this]
    · have h2 : x.name ≠ ByteArray.empty := fun e => hk (n1.2 e)
      rw [bytes_beq_no.2 h2]
      simp [hk]
  have hnm : (x.name != ByteArray.empty && !nameB x.name) = false := by
    by_cases hk : x.kind = 6
    · have := n1.1 hk
      simp [this]
    · rw [n2 hk]; simp
  unfold lnWidth kindW
  by_cases k1 : x.kind = 1
  · rw [if_pos k1]
    by_cases g : (inB x.party 0 1 && inB x.width 1 10) = true
    · rw [if_pos g]
      simp only [Bool.and_eq_true] at g
      rw [if_neg (by simp [g.1, g.2]), if_neg (by simp [k1])]
      rw [hne, hnm, if_neg (by simpa using hl), f2, f3, f4, f5, if_neg (by simp), if_pos k1]
    · rw [if_neg g, if_pos ⟨k1, by
        cases h1 : inB x.party 0 1 <;> cases h2 : inB x.width 1 10 <;> simp_all⟩, if_pos k1]
  rw [if_neg k1, if_neg (fun h => k1 h.1)]
  by_cases k2 : x.kind = 2
  · rw [if_pos k2]
    by_cases g : (inB x.width 1 10 && inB x.value 0 (2 ^ x.width.toNat - 1)) = true
    · rw [if_pos g]
      simp only [Bool.and_eq_true] at g
      rw [if_neg (by simp [g.1, g.2])]
      rw [hne, hnm, if_neg (by simpa using hl), f2, f3, f4, f5, if_neg (by simp), if_neg k1, if_pos k2]
    · rw [if_neg g, if_pos ⟨k2, by
        cases h1 : inB x.width 1 10 <;> cases h2 : inB x.value 0 (2 ^ x.width.toNat - 1) <;> simp_all⟩, if_neg k1, if_pos k2]
  rw [if_neg k2, if_neg (fun h => k2 h.1)]
  rw [hne, hnm, if_neg (by simpa using hl), f2, f3, f4, f5, if_neg (by simp), if_neg k1, if_neg k2]
  by_cases k3 : x.kind = 3
  · rw [if_pos k3, if_pos k3]
    rw [k3] at hl
    have h2 : w.length = 2 := by simp [laParts] at hl; omega
    unfold laTwo resW
    by_cases e : atN w 0 = atN w 1
    · rw [if_pos ⟨h2, e⟩, ← e]
      cases opsL.contains x.op <;> simp
    · rw [if_neg (fun h => e h.2), if_pos (by simp [e])]
  rw [if_neg k3, if_neg k3]
  by_cases k4 : x.kind = 4 ∨ x.kind = 6
  · rw [if_pos k4, if_pos k4, if_pos]
    have : laParts x.kind = 1 := by unfold laParts; rw [if_neg k3, if_pos k4]
    omega
  rw [if_neg k4, if_neg k4]
  by_cases k5 : x.kind = 5
  · rw [if_pos k5, if_pos k5]
    rw [k5] at hl
    have h3 : w.length = 3 := by simp [laParts] at hl; omega
    by_cases g : (atN w 0 == 1 && atN w 1 == atN w 2) = true
    · rw [if_pos g, if_pos]
      simp at g
      exact ⟨h3, g.1, g.2⟩
    · rw [if_neg g, if_neg]
      rintro ⟨_, a, b⟩
      exact g (by simp [a, b])
  · rw [if_neg k5, if_neg k5]
/-- A line that the program's way takes has a name that fits. -/
theorem lnWidth_named {x : Ln} {w : List Int} (h : lnWidth x w ≠ 0) : namedB x ∧ fieldsB x = true ∧ (w.length : Int) = laParts x.kind := by
  unfold lnWidth at h
  split at h
  · exact (h rfl).elim
  split at h
  · exact (h rfl).elim
  split at h
  · exact (h rfl).elim
  next c =>
  split at h
  · exact (h rfl).elim
  next d =>
  clear h
  simp only [Bool.or_eq_true, not_or, Bool.not_eq_true] at c d
  obtain ⟨⟨c1, c2⟩, c3⟩ := c
  obtain ⟨⟨⟨d1, d2⟩, d3⟩, d4⟩ := d
  have hnm : (x.kind = 6 ↔ x.name = ByteArray.empty) := by
    by_cases hk : x.kind = 6
    · have : (x.kind == 6) = true := by simp [hk]
      rw [this] at c1
      cases e : (x.name == ByteArray.empty)
      · rw [e] at c1; cases c1
      · exact ⟨fun _ => bytes_beq.1 e, fun _ => hk⟩
    · have : (x.kind == 6) = false := by simp [hk]
      rw [this] at c1
      cases e : (x.name == ByteArray.empty)
      · exact ⟨fun h => (hk h).elim, fun h => (bytes_beq_no.1 e h).elim⟩
      · rw [e] at c1; cases c1
  refine ⟨⟨hnm, fun hk => ?_⟩, ?_, by simpa using c3⟩
  · have h2 : x.name ≠ ByteArray.empty := fun e => hk (hnm.2 e)
    have h3 : (x.name != ByteArray.empty) = true := by rw [bne, bytes_beq_no.2 h2]; rfl
    rw [h3, Bool.true_and] at c2
    simpa using c2
  · unfold fieldsB
    have f1 : (x.kind != 6 || x.name == ByteArray.empty) = true := by
      by_cases hk : x.kind = 6
      · rw [bytes_beq.2 (hnm.1 hk), Bool.or_true]
      · simp [hk]
    simp only [Bool.not_eq_false', Bool.not_eq_false] at d1 d2 d3 d4
    rw [f1, d1, d2, d3, d4]; rfl
theorem width_agree {done : List Ln} {ws : List Int} (h : okP done ws) (x : Ln) :
    laWidth done ws x = match partsBy (lineF done) ws x.parts with
      | none => 0
      | some w => if x.name ≠ ByteArray.empty ∧ 0 ≤ lineF done x.name then 0 else lnWidth x w := by
  unfold laWidth
  have hfe : findF done = lineF done := funext (find_agree h.2.2)
  rw [hfe]
  cases hw : partsBy (lineF done) ws x.parts with
  | none => rfl
  | some w =>
    dsimp only
    by_cases hn : lnWidth x w = 0
    · rw [hn, ite_self]
      split
      · rfl
      next a =>
      split
      · rfl
      next b =>
      simp only [Bool.or_eq_true, not_or, Bool.not_eq_true, Bool.not_eq_false', Bool.not_eq_false, len_parts] at b
      rw [← kind_agree (w := w) ⟨?_, ?_⟩ b.1 b.2]
      · exact hn
      · have hf := b.1
        unfold fieldsB at hf
        simp only [Bool.and_eq_true] at hf
        constructor
        · intro hk
          have := hf.1
          simp [hk] at this
          first | exact this | exact bytes_beq.1 this
        · intro he
          by_cases hk : x.kind = 6
          · exact hk
          · simp [hk, he] at a
            exact absurd a.1 (by decide)
      · intro hk
        simp [hk] at a
        exact a.1
    · obtain ⟨n, f, l⟩ := lnWidth_named hn
      by_cases he : x.name = ByteArray.empty
      · have hk := n.1.2 he
        rw [if_neg (by simp [hk]), if_neg (by rw [f, len_parts.2 l]; simp), if_neg (fun q => q.1 he), kind_agree n f l]
      · have hk : x.kind ≠ 6 := fun e => he (n.1.1 e)
        by_cases hg : 0 ≤ lineF done x.name
        · rw [if_pos (by simp [hk, hg]), if_pos ⟨he, hg⟩]
        · rw [if_neg (by simp [n.2 hk, hg]), if_neg (by rw [f, len_parts.2 l]; simp), if_neg (fun q => hg q.2), kind_agree n f l]
theorem sum_foldl (l : List Int) (a : Int) : l.foldl (· + ·) a = a + sumL' l := by
  unfold sumL'
  induction l generalizing a with
  | nil => simp
  | cons x r ih => rw [List.foldl_cons, List.foldl_cons, ih, ih (0 + x)]; omega
theorem sumL'_cons (x : Int) (l : List Int) : sumL' (x :: l) = x + sumL' l := by
  rw [show sumL' (x :: l) = l.foldl (· + ·) (0 + x) from rfl, sum_foldl]; omega
theorem inputsL_cons (x : Ln) (r : List Ln) (p : Int) : sumL' (inputsL (x :: r) p) = (if x.kind = 1 ∧ x.party = p then x.width else 0) + sumL' (inputsL r p) := by
  unfold inputsL
  by_cases h : x.kind = 1 ∧ x.party = p
  · rw [if_pos h, List.filter_cons_of_pos (by simp [h.1, h.2]), List.map_cons, sumL'_cons]
  · rw [if_neg h, List.filter_cons_of_neg (by simpa using h)]; omega
theorem laWidthsFrom_prefix : ∀ (r : List Ln) (done : List Ln) (ws : List Int), ∃ t, laWidthsFrom done ws r = ws ++ t ∧ t.length = r.length
  | [], _, ws => ⟨[], by simp [laWidthsFrom], rfl⟩
  | x :: r, done, ws => by
    obtain ⟨t, h, hl⟩ := laWidthsFrom_prefix r (done ++ [x]) (ws ++ [laWidth done ws x])
    exact ⟨laWidth done ws x :: t, by rw [laWidthsFrom, h]; simp, by simp [hl]⟩
def countOuts (ls : List Ln) : Int := ((ls.filter fun x => x.kind == 6).length : Nat)
theorem countOuts_cons (x : Ln) (r : List Ln) : countOuts (x :: r) = (if x.kind = 6 then 1 else 0) + countOuts r := by
  unfold countOuts
  by_cases h : x.kind = 6
  · rw [if_pos h, List.filter_cons_of_pos (by simp [h])]; simp; omega
  · rw [if_neg h, List.filter_cons_of_neg (by simp [h])]; omega
theorem lnWidth_input {x : Ln} {w : List Int} (h : lnWidth x w ≠ 0) (hk : x.kind = 1) : lnWidth x w = x.width := by
  obtain ⟨n, f, l⟩ := lnWidth_named h
  rw [kind_agree n f l] at h ⊢
  unfold kindW at h ⊢
  rw [if_pos hk] at h ⊢
  split at h
  · next g => rw [if_pos g]
  · exact (h rfl).elim
theorem widthsFrom_agree : ∀ (r : List Ln) (done : List Ln) (ws : List Int) (b0 b1 o : Int), okP done ws →
    (∀ ws' B0 B1 O, widthsFrom done ws b0 b1 o r = some (ws', B0, B1, O) → ws' = laWidthsFrom done ws r ∧ okP (done ++ r) ws' ∧ B0 = b0 + sumL' (inputsL r 0) ∧ B1 = b1 + sumL' (inputsL r 1) ∧ O = o + countOuts r) ∧
    (widthsFrom done ws b0 b1 o r = none → ¬ okW (laWidthsFrom done ws r))
  | [], done, ws, b0, b1, o, h => by
    constructor
    · intro ws' B0 B1 O he
      simp [widthsFrom] at he
      obtain ⟨rfl, rfl, rfl, rfl⟩ := he
      refine ⟨rfl, by simpa using h, ?_, ?_, ?_⟩ <;> simp [inputsL, sumL', countOuts]
    · intro he; simp [widthsFrom] at he
  | x :: r, done, ws, b0, b1, o, h => by
    have hag := width_agree h x
    have bad : laWidth done ws x = 0 → ¬ okW (laWidthsFrom done ws (x :: r)) := by
      intro hz hok
      obtain ⟨t, ht, _⟩ := laWidthsFrom_prefix r (done ++ [x]) (ws ++ [laWidth done ws x])
      have := hok ws.length 0 (by rw [laWidthsFrom, ht, hz]; simp)
      omega
    unfold widthsFrom
    cases hp : partsBy (lineF done) ws x.parts with
    | none =>
      rw [hp] at hag
      exact ⟨fun _ _ _ _ he => (nomatch he), fun _ => bad hag⟩
    | some w =>
      rw [hp] at hag
      dsimp only at hag ⊢
      by_cases hc : lnWidth x w = 0 ∨ (x.name ≠ ByteArray.empty ∧ 0 ≤ lineF done x.name)
      · rw [if_pos hc]
        refine ⟨fun _ _ _ _ he => (nomatch he), fun _ => bad ?_⟩
        rw [hag]
        rcases hc with hc | hc
        · rw [hc, ite_self]
        · rw [if_pos hc]
      · rw [if_neg hc]
        simp only [not_or] at hc
        rw [if_neg hc.2] at hag
        obtain ⟨n, f, l⟩ := lnWidth_named hc.1
        have hwok := (partsBy_ok h.2.1 (fun p => by have := (lineF_range done p).2; rw [h.1] at this; exact this) hp).1
        have hw1 : 1 ≤ lnWidth x w ∧ lnWidth x w ≤ 10 := by
          have := kindW_ok hwok l
          rw [← kind_agree n f l] at this
          rcases this with h0 | h0
          · exact (hc.1 h0).elim
          · exact h0
        have hok2 : okP (done ++ [x]) (ws ++ [lnWidth x w]) := ⟨by simp [h.1], okW_snoc h.2.1 hw1, fun y hy => by
          rcases List.mem_append.1 hy with hy | hy
          · exact h.2.2 y hy
          · simp at hy; subst hy; exact n⟩
        obtain ⟨i1, i2⟩ := widthsFrom_agree r (done ++ [x]) (ws ++ [lnWidth x w]) (if x.kind = 1 ∧ x.party = 0 then b0 + lnWidth x w else b0) (if x.kind = 1 ∧ x.party = 1 then b1 + lnWidth x w else b1) (if x.kind = 6 then o + 1 else o) hok2
        constructor
        · intro ws' B0 B1 O he
          obtain ⟨e1, e2, e3, e4, e5⟩ := i1 ws' B0 B1 O he
          refine ⟨by rw [e1, laWidthsFrom, hag], by simpa using e2, ?_, ?_, ?_⟩
          · rw [e3, inputsL_cons]
            by_cases g : x.kind = 1 ∧ x.party = 0
            · rw [if_pos g, if_pos g, lnWidth_input hc.1 g.1]; omega
            · rw [if_neg g, if_neg g]; omega
          · rw [e4, inputsL_cons]
            by_cases g : x.kind = 1 ∧ x.party = 1
            · rw [if_pos g, if_pos g, lnWidth_input hc.1 g.1]; omega
            · rw [if_neg g, if_neg g]; omega
          · rw [e5, countOuts_cons]
            split <;> omega
        · intro he
          have := i2 he
          rwa [laWidthsFrom, hag]
theorem outs_count (ls : List Ln) : ∀ (ws : List Int), ws.length = ls.length → ((outsW ls ws).length : Int) = countOuts ls := by
  induction ls with
  | nil => intro ws h; simp [outsW, countOuts]
  | cons x r ih =>
    intro ws h
    cases ws with
    | nil => simp at h
    | cons w ws =>
      have := ih ws (by simpa using h)
      rw [countOuts_cons, ← this]
      unfold outsW
      rw [List.zip_cons_cons]
      by_cases hk : x.kind = 6
      · rw [if_pos hk, List.filter_cons_of_pos (by simp [hk])]; simp; omega
      · rw [if_neg hk, List.filter_cons_of_neg (by simp [hk])]; omega
theorem okW_all {ws : List Int} : okW ws ↔ ws.all (fun w => inB w 1 10) = true := by
  rw [List.all_eq_true]
  constructor
  · intro h x hx
    obtain ⟨i, hi⟩ := List.getElem?_of_mem hx
    exact inB_iff.2 (h i x hi)
  · intro h i x hx
    exact inB_iff.1 (h x (List.mem_of_getElem? hx))
/-- Both ways agree. -/
theorem widths_good (ls : List Ln) : (widthsF ls).2 = laGoodF ls ∧ (laGoodF ls = true → (widthsF ls).1 = laWidths ls ∧ okP ls (laWidths ls)) := by
  unfold widthsF laGoodF
  by_cases h30 : 30 < ls.length
  · rw [if_pos h30]
    have : decide (ls.length ≤ 30) = false := by simp; omega
    rw [this, Bool.false_and]
    exact ⟨rfl, fun h => by cases h⟩
  · rw [if_neg h30]
    have h30' : decide (ls.length ≤ 30) = true := by simp; omega
    rw [h30', Bool.true_and]
    obtain ⟨i1, i2⟩ := widthsFrom_agree ls [] [] 0 0 0 ⟨rfl, fun i x hx => by simp at hx, fun x hx => by simp at hx⟩
    cases hw : widthsFrom [] [] 0 0 0 ls with
    | none =>
      have := i2 hw
      rw [show laWidthsFrom [] [] ls = laWidths ls from rfl, okW_all, Bool.not_eq_true] at this
      rw [this]
      exact ⟨rfl, fun h => by cases h⟩
    | some q =>
      obtain ⟨ws', B0, B1, O⟩ := q
      obtain ⟨e1, e2, e3, e4, e5⟩ := i1 _ _ _ _ hw
      rw [show laWidthsFrom [] [] ls = laWidths ls from rfl] at e1
      subst e1
      have hok : (laWidths ls).all (fun w => inB w 1 10) = true := okW_all.1 e2.2.1
      have hl : (laWidths ls).length = ls.length := by
        obtain ⟨t, ht, htl⟩ := laWidthsFrom_prefix ls [] []
        rw [show laWidths ls = laWidthsFrom [] [] ls from rfl, ht]; simpa using htl
      have ho := outs_count ls _ hl
      rw [hok, Bool.true_and]
      dsimp only
      refine ⟨?_, fun _ => ⟨rfl, by simpa using e2⟩⟩
      rw [e3, e4, e5, Int.zero_add, Int.zero_add, Int.zero_add, ← ho]
      congr 2
      simp
      omega
end Go.Proofs.YtdlddkgmjpmenaaGreatDoor
/-
  The language: the program's walk over the lines, line by line.
-/
namespace Go.Proofs.YtdlddkgmjpmenaaGreatDoor
open Go.RowKit
set_option linter.unusedVariables false
set_option linter.unusedSimpArgs false

abbrev St := List Int × Int × Int × Int
/-- What the program's walk does at one line. -/
def stepW (done : List Ln) (x : Ln) (s : St) : Option St :=
  match partsBy (lineF done) s.1 x.parts with
  | none => none
  | some w =>
    if lnWidth x w = 0 ∨ (x.name ≠ ByteArray.empty ∧ 0 ≤ lineF done x.name) then none
    else some (s.1 ++ [lnWidth x w], (if x.kind = 1 ∧ x.party = 0 then s.2.1 + lnWidth x w else s.2.1), (if x.kind = 1 ∧ x.party = 1 then s.2.2.1 + lnWidth x w else s.2.2.1), (if x.kind = 6 then s.2.2.2 + 1 else s.2.2.2))
def runW (ls : List Ln) : Option St := widthsFrom [] [] 0 0 0 ls
theorem widthsFrom_cons (done : List Ln) (ws : List Int) (b0 b1 o : Int) (x : Ln) (r : List Ln) : widthsFrom done ws b0 b1 o (x :: r) = (stepW done x (ws, b0, b1, o)).bind fun s => widthsFrom (done ++ [x]) s.1 s.2.1 s.2.2.1 s.2.2.2 r := by
  unfold stepW
  rw [widthsFrom]
  cases h : partsBy (lineF done) ws x.parts with
  | none => simp [h]
  | some w =>
    simp only [h]
    by_cases g : lnWidth x w = 0 ∨ (x.name ≠ ByteArray.empty ∧ 0 ≤ lineF done x.name)
    · rw [if_pos g, if_pos g]; rfl
    · rw [if_neg g, if_neg g]; rfl
theorem widthsFrom_snoc (x : Ln) : ∀ (r done : List Ln) (ws : List Int) (b0 b1 o : Int), widthsFrom done ws b0 b1 o (r ++ [x]) = (widthsFrom done ws b0 b1 o r).bind (stepW (done ++ r) x)
  | [], done, ws, b0, b1, o => by
    rw [List.nil_append, widthsFrom_cons, widthsFrom, List.append_nil]
    cases h : stepW done x (ws, b0, b1, o) with
    | none => simp [h]
    | some s => simp [h, widthsFrom]
  | y :: r, done, ws, b0, b1, o => by
    rw [List.cons_append, widthsFrom_cons, widthsFrom_cons]
    cases stepW done y (ws, b0, b1, o) with
    | none => rfl
    | some s =>
      simp only [Option.bind_some]
      rw [widthsFrom_snoc x r]
      simp
theorem widthsFrom_none : ∀ (a b done : List Ln) (ws : List Int) (b0 b1 o : Int), widthsFrom done ws b0 b1 o a = none → widthsFrom done ws b0 b1 o (a ++ b) = none
  | [], b, done, ws, b0, b1, o, h => by simp [widthsFrom] at h
  | y :: a, b, done, ws, b0, b1, o, h => by
    rw [widthsFrom_cons] at h
    rw [List.cons_append, widthsFrom_cons]
    cases hs : stepW done y (ws, b0, b1, o) with
    | none => rfl
    | some s =>
      rw [hs] at h
      simp only [Option.bind_some] at h ⊢
      exact widthsFrom_none a b _ _ _ _ _ h
theorem runW_step {ls : List Ln} {k : Nat} {x : Ln} {s : St} (h : ls[k]? = some x) (hs : runW (ls.take k) = some s) : runW (ls.take (k + 1)) = stepW (ls.take k) x s := by
  unfold runW at hs ⊢
  rw [List.take_add_one, h]
  rw [Option.toList_some, widthsFrom_snoc, hs, List.nil_append]
  rfl
theorem runW_stop {ls : List Ln} {k : Nat} {x : Ln} {s : St} (h : ls[k]? = some x) (hs : runW (ls.take k) = some s) (hn : stepW (ls.take k) x s = none) : widthsF ls = ([], false) := by
  have h1 := runW_step h hs
  rw [hn] at h1
  have h2 : runW ls = none := by
    have := widthsFrom_none (ls.take (k + 1)) (ls.drop (k + 1)) [] [] 0 0 0 h1
    rwa [List.take_append_drop] at this
  unfold widthsF
  unfold runW at h2
  rw [h2]
  split <;> rfl
/-- What holds of the state behind some lines. -/
theorem runW_ok {ls : List Ln} {s : St} (h : runW ls = some s) : s.1 = laWidths ls ∧ okP ls s.1 ∧ s.2.1 = sumL' (inputsL ls 0) ∧ s.2.2.1 = sumL' (inputsL ls 1) ∧ s.2.2.2 = countOuts ls := by
  obtain ⟨ws, b0, b1, o⟩ := s
  have h0 : okP [] [] := ⟨rfl, fun i x hx => by simp at hx, fun x hx => by simp at hx⟩
  have := (widthsFrom_agree ls [] [] 0 0 0 h0).1 ws b0 b1 o h
  obtain ⟨h1, h2, h3, h4, h5⟩ := this
  exact ⟨h1, by simpa using h2, by simpa using h3, by simpa using h4, by simpa using h5⟩
theorem runW_end {ls : List Ln} {s : St} (h : runW ls = some s) (h30 : ¬ 30 < ls.length) : widthsF ls = (s.1, decide (s.2.1 ≤ 20) && (decide (s.2.2.1 ≤ 20) && decide (s.2.2.2 ≤ 10))) := by
  obtain ⟨ws, b0, b1, o⟩ := s
  unfold widthsF
  unfold runW at h
  rw [if_neg h30, h]
end Go.Proofs.YtdlddkgmjpmenaaGreatDoor
