/-
  Programs read back: what the reference's cutting and reading give.
-/
import Derived.Test.YtdlddkgmjpmenaaGreatDoorHB
import Derived.Test.YtdlddkgmjpmenaaGreatDoorHPu
import Derived.Lib.Split
import Derived.Lib.AtoiAll
import Derived.Lib.Strings
import Derived.Test.YtdlddkgmjpmenaaGreatDoorHLs
import Derived.Deep.DeepCutAuto
namespace Go.Proofs.YtdlddkgmjpmenaaGreatDoor
open Go.RowKit
set_option linter.unusedVariables false
set_option linter.unusedSimpArgs false

/-- The reference's cutting. -/
def splitL (c : UInt8) : List UInt8 → List (List UInt8)
  | [] => [[]]
  | b :: l => if b = c then [] :: splitL c l else match splitL c l with
    | h :: t => (b :: h) :: t
    | [] => [[b]]
theorem splitL_free {c : UInt8} : ∀ {x : List UInt8}, c ∉ x → splitL c x = [x]
  | [], _ => rfl
  | b :: l, h => by
    rw [List.mem_cons, not_or] at h
    rw [splitL, if_neg (fun e => h.1 e.symm), splitL_free h.2]
theorem splitL_hit {c : UInt8} : ∀ {x : List UInt8} (y : List UInt8), c ∉ x → splitL c (x ++ c :: y) = x :: splitL c y
  | [], y, _ => by rw [List.nil_append, splitL, if_pos rfl]
  | b :: l, y, h => by
    rw [List.mem_cons, not_or] at h
    rw [List.cons_append, splitL, if_neg (fun e => h.1 e.symm), splitL_hit y h.2]
def digitsF : List UInt8 → Int → Int
  | [], n => n
  | c :: r, n => if c.toNat < 48 ∨ 57 < c.toNat then -1 else digitsF r (10 * n + ((c.toNat : Int) - 48))
/-- The reference's reading of a number. -/
def readF (s : ByteArray) : Int := if (s.size = 0 ∨ 6 < s.size ∨ (s.data.toList.head? = some 48 ∧ 1 < s.size)) then -1 else digitsF s.data.toList 0
end Go.Proofs.YtdlddkgmjpmenaaGreatDoor
/-
  Programs read back: cutting a text at a byte.
-/
namespace Go.Proofs.YtdlddkgmjpmenaaGreatDoor
open Go.RowKit
set_option linter.unusedVariables false
set_option linter.unusedSimpArgs false

theorem splitL_join {c : UInt8} : ∀ (r : List (List UInt8)) (w : List UInt8), c ∉ w → (∀ x ∈ r, c ∉ x) → splitL c (Lib.join (w :: r) [c]) = w :: r
  | [], w, h, _ => by rw [Lib.join_one, splitL_free h]
  | v :: r, w, h, hr => by
    have e : Lib.join (w :: v :: r) [c] = w ++ c :: Lib.join (v :: r) [c] := by
      rw [Lib.join_cons, Lib.join_cons]
      simp [Lib.joinTail]
    rw [e, splitL_hit _ h, splitL_join r v (hr v (List.mem_cons_self ..)) (fun x hx => hr x (List.mem_cons_of_mem _ hx))]
theorem index_free {c : UInt8} : ∀ {x : List UInt8}, c ∉ x → Lib.index x [c] = -1
  | [], _ => rfl
  | b :: l, h => by
    rw [List.mem_cons, not_or] at h
    have hp : List.isPrefixOf [c] (b :: l) = false := by simp [List.isPrefixOf, h.1]
    rw [Lib.index, if_neg (by rw [hp]; decide), index_free h.2]
    rfl
theorem index_hit1 {c : UInt8} : ∀ {x : List UInt8} (y : List UInt8), c ∉ x → Lib.index (x ++ c :: y) [c] = (x.length : Int)
  | [], y, _ => by
    rw [List.nil_append, Lib.index, if_pos (by simp [List.isPrefixOf])]
    rfl
  | b :: l, y, h => by
    rw [List.mem_cons, not_or] at h
    have hp : List.isPrefixOf [c] (b :: (l ++ c :: y)) = false := by simp [List.isPrefixOf, h.1]
    have ih := index_hit1 y h.2
    rw [List.cons_append, Lib.index, if_neg (by rw [hp]; decide), ih, if_neg (by simp), List.length_cons]
    simp
theorem splitK_join {c : UInt8} : ∀ (r : List (List UInt8)) (w : List UInt8) (k : Nat), c ∉ w → (∀ x ∈ r, c ∉ x) → r.length ≤ k → Lib.splitK [c] 0 k (Lib.join (w :: r) [c]) = w :: r
  | [], w, k, h, _, _ => by
    rw [Lib.join_one]
    cases k with
    | zero => rfl
    | succ k => rw [Lib.splitK, index_free h]; rfl
  | v :: r, w, 0, h, hr, hk => by simp at hk
  | v :: r, w, k + 1, h, hr, hk => by
    have e : Lib.join (w :: v :: r) [c] = w ++ c :: Lib.join (v :: r) [c] := by
      rw [Lib.join_cons, Lib.join_cons]
      simp [Lib.joinTail]
    have ih := splitK_join r v k (hr v (List.mem_cons_self ..)) (fun x hx => hr x (List.mem_cons_of_mem _ hx)) (by simp at hk; omega)
    rw [e, Lib.splitK, index_hit1 _ h, if_neg (by simp)]
    have e1 : ((w.length : Int)).toNat + 0 = w.length := by omega
    have e2 : ((w.length : Int)).toNat + [c].length = w.length + 1 := by simp
    have hd : (w ++ c :: Lib.join (v :: r) [c]).drop (w.length + 1) = Lib.join (v :: r) [c] := by
      rw [← List.drop_drop, List.drop_left]; rfl
    rw [e1, e2, List.take_left, hd, ih]
theorem toLists_inj : ∀ {xs ys : List ByteArray}, xs.map (·.data.toList) = ys.map (·.data.toList) → xs = ys
  | [], [], _ => rfl
  | [], b :: ys, h => by simp at h
  | a :: xs, [], h => by simp at h
  | a :: xs, b :: ys, h => by
    simp only [List.map_cons, List.cons.injEq] at h
    have e : a = b := ByteArray.ext (Array.ext' h.1)
    rw [e, toLists_inj h.2]
/-- What strings.SplitN gives of a text that is joined out of few pieces. -/
theorem splitB_join {c : UInt8} (ws : List ByteArray) (w : ByteArray) (k : Nat) (h : c ∉ w.data.toList) (hr : ∀ x ∈ ws, c ∉ x.data.toList) (hk : ws.length ≤ k) (s : ByteArray) (hs : s.data.toList = Lib.join ((w :: ws).map (·.data.toList)) [c]) :
    Lib.splitB ⟨#[c]⟩ 0 k s = w :: ws := by
  have h1 := Lib.splitB_data ⟨#[c]⟩ 0 k s
  have h2 : (⟨#[c]⟩ : ByteArray).data.toList = [c] := rfl
  rw [hs, h2, List.map_cons, splitK_join _ _ _ h (by simpa using hr) (by simpa using hk)] at h1
  have h3 : (Lib.splitB ⟨#[c]⟩ 0 k s).map (·.data.toList) = (w :: ws).map (·.data.toList) := by rw [h1, List.map_cons]
  exact toLists_inj h3
end Go.Proofs.YtdlddkgmjpmenaaGreatDoor
/-
  Programs read back: numbers.
-/
namespace Go.Proofs.YtdlddkgmjpmenaaGreatDoor
open Go.RowKit
set_option linter.unusedVariables false
set_option linter.unusedSimpArgs false

/-- The program's reading of a number. -/
def atoiV (s : ByteArray) : Int := match Lib.atoiAll s.data.toList with
  | .ok v => v
  | .range => Lib.atoiSat s.data.toList
  | _ => 0
theorem digit_nat {d : Nat} (h : d < 10) : (UInt8.ofNat (48 + d)).toNat = 48 + d := by
  simp [UInt8.toNat_ofNat']
  omega
theorem dec_digits : ∀ (u : Nat), ∀ c ∈ Lib.decDigits u, 48 ≤ c.toNat ∧ c.toNat ≤ 57 := by
  intro u
  induction u using Nat.strongRecOn with
  | _ u ih =>
    intro c hc
    rw [Lib.decDigits] at hc
    split at hc
    · next h =>
      rw [List.mem_singleton] at hc
      subst hc
      rw [digit_nat h]
      omega
    · rw [List.mem_append] at hc
      rcases hc with hc | hc
      · exact ih (u / 10) (by omega) c hc
      · rw [List.mem_singleton] at hc
        subst hc
        rw [digit_nat (d := u % 10) (by omega)]
        omega
theorem digitsF_append : ∀ (a b : List UInt8) (n : Int), (∀ c ∈ a, 48 ≤ c.toNat ∧ c.toNat ≤ 57) → digitsF (a ++ b) n = digitsF b (digitsF a n)
  | [], _, _, _ => rfl
  | c :: r, b, n, h => by
    have hc := h c (List.mem_cons_self ..)
    rw [List.cons_append, digitsF, digitsF, if_neg (by omega), if_neg (by omega)]
    exact digitsF_append r b _ (fun x hx => h x (List.mem_cons_of_mem _ hx))
theorem digitsF_dec : ∀ (u : Nat), digitsF (Lib.decDigits u) 0 = (u : Int) := by
  intro u
  induction u using Nat.strongRecOn with
  | _ u ih =>
    rw [Lib.decDigits]
    split
    · next h =>
      rw [digitsF, if_neg (by rw [digit_nat h]; omega), digitsF, digit_nat h]
      omega
    · rw [digitsF_append _ _ _ (dec_digits _), ih (u / 10) (by omega), digitsF, if_neg (by rw [digit_nat (by omega)]; omega), digitsF, digit_nat (by omega)]
      omega
theorem dec_len4 {u : Nat} (h : u ≤ 9999) : 1 ≤ (Lib.decDigits u).length ∧ (Lib.decDigits u).length ≤ 4 := by
  have one : ∀ v : Nat, v < 10 → (Lib.decDigits v).length = 1 := fun v hv => by rw [Lib.decDigits, dif_pos hv]; rfl
  have step : ∀ v : Nat, ¬ v < 10 → (Lib.decDigits v).length = (Lib.decDigits (v / 10)).length + 1 := fun v hv => by rw [Lib.decDigits, dif_neg hv, List.length_append]; rfl
  by_cases h1 : u < 10
  · rw [one u h1]; omega
  rw [step u h1]
  by_cases h2 : u / 10 < 10
  · rw [one _ h2]; omega
  rw [step _ h2]
  by_cases h3 : u / 10 / 10 < 10
  · rw [one _ h3]; omega
  rw [step _ h3, one _ (by omega)]
  omega
theorem dec_head {u : Nat} (h : 10 ≤ u) : (Lib.decDigits u).head? ≠ some 48 := by
  induction u using Nat.strongRecOn with
  | _ u ih =>
    rw [Lib.decDigits, dif_neg (by omega)]
    by_cases h2 : u / 10 < 10
    · rw [Lib.decDigits, dif_pos h2]
      simp only [List.singleton_append, List.head?_cons, ne_eq, Option.some.injEq]
      intro e
      have := digit_nat h2
      rw [e] at this
      have h48 : (48 : UInt8).toNat = 48 := rfl
      omega
    · have := ih (u / 10) (by omega) (by omega)
      cases hd : Lib.decDigits (u / 10) with
      | nil => simp; intro e; have := digit_nat (d := u % 10) (by omega); have hl := (dec_len (u / 10)); exact absurd hd (by rw [Lib.decDigits]; split <;> simp)
      | cons a r => rw [hd] at this; simpa using this
theorem readF_num {n : Int} (h0 : 0 ≤ n) (h1 : n ≤ 9999) : readF (numT n) = n := by
  obtain ⟨u, rfl⟩ := Int.eq_ofNat_of_zero_le h0
  have hl := dec_len4 (u := u) (by omega)
  have hs : (numT (u : Int)).size = (Lib.decDigits u).length := by simp [numT, bt, ByteArray.size]
  have hd : (numT (u : Int)).data.toList = Lib.decDigits u := by simp [numT, bt]
  unfold readF
  rw [hs, hd, if_neg, digitsF_dec]
  rintro (h | h | ⟨h, h2⟩)
  · omega
  · omega
  · by_cases hu : 10 ≤ u
    · exact dec_head hu h
    · rw [Lib.decDigits, dif_pos (by omega)] at h2
      simp at h2
theorem parse_append : ∀ (a b : List UInt8) (acc v : Nat), Lib.parseUint10 acc a = .ok v → Lib.parseUint10 acc (a ++ b) = Lib.parseUint10 v b
  | [], b, acc, v, h => by simp only [Lib.parseUint10, Lib.NumEnd.ok.injEq] at h; subst h; rfl
  | c :: r, b, acc, v, h => by
    rw [Lib.parseUint10] at h
    rw [List.cons_append, Lib.parseUint10]
    split at h
    · next h1 =>
      rw [if_pos h1]
      split at h
      · cases h
      · next h2 =>
        rw [if_neg h2]
        split at h
        · cases h
        · next h3 =>
          rw [if_neg h3]
          exact parse_append r b _ v h
    · cases h
theorem parse_dec : ∀ (u : Nat), u ≤ 1000000 → Lib.parseUint10 0 (Lib.decDigits u) = .ok u := by
  intro u
  induction u using Nat.strongRecOn with
  | _ u ih =>
    intro hu
    rw [Lib.decDigits]
    split
    · next h =>
      rw [Lib.parseUint10, if_pos (by rw [digit_nat h]; omega), if_neg (by omega), if_neg (by rw [digit_nat h]; omega), Lib.parseUint10, digit_nat h]
      congr 1
      omega
    · rw [parse_append _ _ _ _ (ih (u / 10) (by omega) (by omega)), Lib.parseUint10, if_pos (by rw [digit_nat (d := u % 10) (by omega)]; omega), if_neg (by omega), if_neg (by rw [digit_nat (d := u % 10) (by omega)]; omega), Lib.parseUint10, digit_nat (d := u % 10) (by omega)]
      congr 1
      omega
theorem atoiV_num {n : Int} (h0 : 0 ≤ n) (h1 : n ≤ 9999) : atoiV (numT n) = n := by
  obtain ⟨u, rfl⟩ := Int.eq_ofNat_of_zero_le h0
  have hd : (numT (u : Int)).data.toList = Lib.decDigits u := by simp [numT, bt]
  have hp := parse_dec u (by omega)
  have hl := dec_len4 (u := u) (by omega)
  have hdig := dec_digits u
  unfold atoiV
  rw [hd]
  cases hc : Lib.decDigits u with
  | nil => rw [hc] at hl; simp at hl
  | cons c r =>
    rw [hc] at hp hdig
    have hcd := hdig c (List.mem_cons_self ..)
    have hm : Lib.parseMag (c :: r) = .ok u := by unfold Lib.parseMag; rw [if_neg (by simp)]; exact hp
    have ha : Lib.atoiAll (c :: r) = .ok (u : Int) := by
      have h43 : c.toNat ≠ 43 := by omega
      have h45 : c.toNat ≠ 45 := by omega
      simp [Lib.atoiAll, h43, h45, hm]
      omega
    rw [ha]
end Go.Proofs.YtdlddkgmjpmenaaGreatDoor
/-
  Programs read back: a line's words, and the line out of its words.
-/
namespace Go.Proofs.YtdlddkgmjpmenaaGreatDoor
open Go.RowKit
set_option linter.unusedVariables false
set_option linter.unusedSimpArgs false

theorem line_more {ls : List Ln} (hg : laGoodF ls = true) {k : Nat} {x : Ln} (h : ls[k]? = some x) : fieldsB x = true ∧ (x.kind ≠ 6 → nameB x.name = true) ∧ (x.kind = 3 → opsL.contains x.op = true) := by
  have hok := ((widths_good ls).2 hg).2
  have h1 := laWidths_get h
  have h2 := hok.2.1 k _ h1
  unfold laWidth at h2
  cases hw : partsBy (findF (ls.take k)) (laWidths (ls.take k)) x.parts with
  | none => rw [hw] at h2; simp at h2
  | some w =>
    rw [hw] at h2
    simp only [] at h2
    split at h2
    · omega
    · next g1 =>
      split at h2
      · omega
      · next g2 =>
        simp only [Bool.or_eq_true, not_or, Bool.not_eq_true', Bool.not_eq_false, bne_iff_ne, ne_eq, Decidable.not_not] at g2
        refine ⟨g2.1, fun e => ?_, fun e => ?_⟩
        · cases hn : nameB x.name
          · exact absurd (by rw [hn]; simp [e]) g1
          · rfl
        · have hk := h2.1
          unfold kindW at hk
          rw [if_neg (by omega), if_neg (by omega), if_pos e] at hk
          unfold laTwo at hk
          split at hk
          · omega
          · next g3 =>
            cases hc : opsL.contains x.op
            · exact absurd (by rw [hc]; simp) g3
            · rfl
def freeOf (c : UInt8) (s : ByteArray) : Prop := c ∉ s.data.toList
theorem name_free {s : ByteArray} (h : nameB s = true) {c : UInt8} (hc : letterB c = false) : freeOf c s := by
  intro hm
  unfold nameB at h
  simp only [Bool.and_eq_true, List.all_eq_true] at h
  have := h.1 c hm
  rw [hc] at this
  cases this
theorem num_free (n : Int) {c : UInt8} (hc : c.toNat < 48) : freeOf c (numT n) := by
  intro hm
  have e : (numT n).data.toList = Lib.decDigits n.toNat := by simp [numT, bt]
  rw [e] at hm
  have := dec_digits _ c hm
  omega
theorem op_free {s : ByteArray} (h : opsL.contains s = true) {c : UInt8} (hc : c = 32 ∨ c = 10) : freeOf c s := by
  have ho : s ∈ opsL := by simpa using h
  unfold freeOf
  simp only [opsL, opB, List.mem_cons, List.not_mem_nil, or_false] at ho
  rcases hc with rfl | rfl <;> rcases ho with rfl | rfl | rfl | rfl | rfl | rfl | rfl | rfl <;> decide
theorem part_name {ls : List Ln} (hg : laGoodF ls = true) {k : Nat} {x : Ln} (h : ls[k]? = some x) {p : ByteArray} (hp : p ∈ x.parts) : nameB p = true := by
  have h0 := (good_part hg h hp).1
  unfold findF at h0
  cases hf : ls.findIdx? (findB p) with
  | none => rw [hf] at h0; simp at h0
  | some i =>
    rw [List.findIdx?_eq_some_iff_getElem] at hf
    obtain ⟨hi, hb, _⟩ := hf
    unfold findB at hb
    simp at hb
    have := (line_more hg (List.getElem?_eq_getElem hi)).2.1 hb.1
    rw [hb.2] at this
    exact this
/-- The words of a line. -/
def wordsL (x : Ln) : List ByteArray :=
  if x.kind = 1 then [⟨#[105, 110, 112, 117, 116]⟩, numT x.party, x.name, numT x.width]
  else if x.kind = 2 then [⟨#[99, 111, 110, 115, 116]⟩, x.name, numT x.width, numT x.value]
  else if x.kind = 3 then [⟨#[108, 101, 116]⟩, x.name, x.parts.getD 0 ByteArray.empty, x.op, x.parts.getD 1 ByteArray.empty]
  else if x.kind = 4 then [⟨#[110, 111, 116]⟩, x.name, x.parts.getD 0 ByteArray.empty]
  else if x.kind = 5 then [⟨#[112, 105, 99, 107]⟩, x.name, x.parts.getD 0 ByteArray.empty, x.parts.getD 1 ByteArray.empty, x.parts.getD 2 ByteArray.empty]
  else [⟨#[111, 117, 116]⟩, x.parts.getD 0 ByteArray.empty]
theorem lineE_words (x : Ln) : lineE x = joinB (wordsL x) := by
  unfold lineE wordsL
  split
  · rw [join4]; rfl
  split
  · rw [join4]; rfl
  split
  · rw [join5]; rfl
  split
  · rw [join3]; rfl
  split
  · rw [join5]; rfl
  · rw [join2]; rfl
def lnZ : Ln := ⟨0, ⟨#[]⟩, ⟨#[]⟩, [], 0, 0, 0⟩
/-- The line of words: rd reads a number. -/
def lineOf (rd : ByteArray → Int) : List ByteArray → Ln
  | [a, b] => if a == (⟨#[111, 117, 116]⟩ : ByteArray) then ⟨6, ⟨#[]⟩, ⟨#[]⟩, [b], 0, 0, 0⟩ else lnZ
  | [a, b, c] => if a == (⟨#[110, 111, 116]⟩ : ByteArray) then ⟨4, b, ⟨#[]⟩, [c], 0, 0, 0⟩ else lnZ
  | [a, b, c, d] => if a == (⟨#[105, 110, 112, 117, 116]⟩ : ByteArray) then ⟨1, c, ⟨#[]⟩, [], rd b, rd d, 0⟩ else if a == (⟨#[99, 111, 110, 115, 116]⟩ : ByteArray) then ⟨2, b, ⟨#[]⟩, [], 0, rd c, rd d⟩ else lnZ
  | [a, b, c, d, f] => if a == (⟨#[108, 101, 116]⟩ : ByteArray) then ⟨3, b, d, [c, f], 0, 0, 0⟩ else if a == (⟨#[112, 105, 99, 107]⟩ : ByteArray) then ⟨5, b, ⟨#[]⟩, [c, d, f], 0, 0, 0⟩ else lnZ
  | _ => lnZ
/-- What is known of a line of a valid program. -/
structure LineIs (x : Ln) : Prop where
  len : (x.parts.length : Int) = laParts x.kind
  k1 : x.kind = 1 → (0 ≤ x.party ∧ x.party ≤ 1) ∧ (1 ≤ x.width ∧ x.width ≤ 10)
  k2 : x.kind = 2 → (1 ≤ x.width ∧ x.width ≤ 10) ∧ (0 ≤ x.value ∧ x.value ≤ 1023)
  kd : 1 ≤ x.kind ∧ x.kind ≤ 6
  flds : fieldsB x = true
  nm : x.kind ≠ 6 → nameB x.name = true
  op : x.kind = 3 → opsL.contains x.op = true
  pts : ∀ p ∈ x.parts, nameB p = true
theorem line_is {ls : List Ln} (hg : laGoodF ls = true) {k : Nat} {x : Ln} (h : ls[k]? = some x) : LineIs x := by
  obtain ⟨a, b, c, d⟩ := line_good hg h
  obtain ⟨e, f, g⟩ := line_more hg h
  exact ⟨a, b, c, d, e, f, g, fun p hp => part_name hg h hp⟩
theorem words_free {x : Ln} (h : LineIs x) {c : UInt8} (hc : c = 32 ∨ c = 10) : ∀ w ∈ wordsL x, freeOf c w := by
  have hl : letterB c = false := by rcases hc with rfl | rfl <;> decide
  have hn : c.toNat < 48 := by rcases hc with rfl | rfl <;> decide
  have hp : ∀ j, j < x.parts.length → freeOf c (x.parts.getD j ByteArray.empty) := fun j hj => by
    rw [List.getD_eq_getElem?_getD, List.getElem?_eq_getElem hj]
    exact name_free (h.pts _ (List.getElem_mem hj)) hl
  have hlen := h.len
  have hkd := h.kd
  unfold laParts at hlen
  intro w hw
  unfold wordsL at hw
  split at hw
  · next e =>
    have hnm := h.nm (by omega)
    simp only [List.mem_cons, List.not_mem_nil, or_false] at hw
    rcases hw with rfl | rfl | rfl | rfl
    · rcases hc with rfl | rfl <;> (unfold freeOf; decide)
    · exact num_free _ hn
    · exact name_free hnm hl
    · exact num_free _ hn
  split at hw
  · next e =>
    have hnm := h.nm (by omega)
    simp only [List.mem_cons, List.not_mem_nil, or_false] at hw
    rcases hw with rfl | rfl | rfl | rfl
    · rcases hc with rfl | rfl <;> (unfold freeOf; decide)
    · exact name_free hnm hl
    · exact num_free _ hn
    · exact num_free _ hn
  split at hw
  · next e =>
    have hnm := h.nm (by omega)
    rw [if_pos e] at hlen
    simp only [List.mem_cons, List.not_mem_nil, or_false] at hw
    rcases hw with rfl | rfl | rfl | rfl | rfl
    · rcases hc with rfl | rfl <;> (unfold freeOf; decide)
    · exact name_free hnm hl
    · exact hp 0 (by omega)
    · exact op_free (h.op e) hc
    · exact hp 1 (by omega)
  split at hw
  · next e =>
    have hnm := h.nm (by omega)
    rw [if_neg (by omega), if_pos (by omega)] at hlen
    simp only [List.mem_cons, List.not_mem_nil, or_false] at hw
    rcases hw with rfl | rfl | rfl
    · rcases hc with rfl | rfl <;> (unfold freeOf; decide)
    · exact name_free hnm hl
    · exact hp 0 (by omega)
  split at hw
  · next e =>
    have hnm := h.nm (by omega)
    rw [if_neg (by omega), if_neg (by omega), if_pos (by omega)] at hlen
    simp only [List.mem_cons, List.not_mem_nil, or_false] at hw
    rcases hw with rfl | rfl | rfl | rfl | rfl
    · rcases hc with rfl | rfl <;> (unfold freeOf; decide)
    · exact name_free hnm hl
    · exact hp 0 (by omega)
    · exact hp 1 (by omega)
    · exact hp 2 (by omega)
  · next e1 e2 e3 e4 e5 =>
    rw [if_neg (by omega), if_pos (by omega)] at hlen
    simp only [List.mem_cons, List.not_mem_nil, or_false] at hw
    rcases hw with rfl | rfl
    · rcases hc with rfl | rfl <;> (unfold freeOf; decide)
    · exact hp 0 (by omega)
/-- A line is read back out of its words. -/
theorem lineOf_words {x : Ln} (h : LineIs x) {rd : ByteArray → Int} (hrd : ∀ n : Int, 0 ≤ n → n ≤ 9999 → rd (numT n) = n) : lineOf rd (wordsL x) = x := by
  have hlen := h.len
  have hkd := h.kd
  have hf := h.flds
  have h1 := h.k1
  have h2 := h.k2
  obtain ⟨K, nm, op, ps, py, wd, vl⟩ := x
  dsimp only at hlen hkd h1 h2
  unfold laParts at hlen
  simp only [fieldsB, Bool.and_eq_true, Bool.or_eq_true, bne_iff_ne, beq_iff_eq] at hf
  obtain ⟨f1, f2, f3, f4, f5⟩ := hf
  have he : ByteArray.empty = (⟨#[]⟩ : ByteArray) := rfl
  by_cases k1 : K = 1
  · subst k1
    obtain ⟨⟨y1, y2⟩, y3, y4⟩ := h1 rfl
    have e1 : ps = [] := by simpa using hlen
    have e2 : op = ⟨#[]⟩ := by simpa [he] using f2
    have e3 : vl = 0 := by simpa using f5
    subst e1 e2 e3
    simp [wordsL, lineOf, hrd py y1 (by omega), hrd wd (by omega) (by omega)]
  by_cases k2 : K = 2
  · subst k2
    obtain ⟨⟨y1, y2⟩, y3, y4⟩ := h2 rfl
    have e1 : ps = [] := by simpa using hlen
    have e2 : op = ⟨#[]⟩ := by simpa [he] using f2
    have e3 : py = 0 := by simpa using f3
    subst e1 e2 e3
    have hne : ((⟨#[99, 111, 110, 115, 116]⟩ : ByteArray) == ⟨#[105, 110, 112, 117, 116]⟩) = false := by decide
    simp [wordsL, lineOf, hne, hrd wd (by omega) (by omega), hrd vl y3 (by omega)]
  have e5 : vl = 0 := by simpa [k2] using f5
  have e4 : wd = 0 := by simpa [k1, k2] using f4
  have e3 : py = 0 := by simpa [k1] using f3
  subst e5 e4 e3
  by_cases k3 : K = 3
  · subst k3
    obtain ⟨p0, p1, rfl⟩ := two_of (by simp at hlen; omega : ps.length = 2)
    simp [wordsL, lineOf]
  have e2 : op = ⟨#[]⟩ := by simpa [k3, he] using f2
  subst e2
  by_cases k4 : K = 4
  · subst k4
    obtain ⟨p0, rfl⟩ := one_of (by simp at hlen; omega : ps.length = 1)
    simp [wordsL, lineOf]
  by_cases k5 : K = 5
  · subst k5
    obtain ⟨p0, p1, p2, rfl⟩ := three_of (by simp at hlen; omega : ps.length = 3)
    have hne : ((⟨#[112, 105, 99, 107]⟩ : ByteArray) == ⟨#[108, 101, 116]⟩) = false := by decide
    simp [wordsL, lineOf, hne]
  · obtain rfl : K = 6 := by omega
    obtain ⟨p0, rfl⟩ := one_of (by simp at hlen; omega : ps.length = 1)
    have e1 : nm = ⟨#[]⟩ := by simpa [he] using f1
    subst e1
    simp [wordsL, lineOf]
end Go.Proofs.YtdlddkgmjpmenaaGreatDoor
/-
  Programs read back: the whole text.
-/
namespace Go.Proofs.YtdlddkgmjpmenaaGreatDoor
open Go.RowKit
set_option linter.unusedVariables false
set_option linter.unusedSimpArgs false

theorem bt_self (w : ByteArray) : bt w.data.toList = w := rfl
def specP (s : ByteArray) : List Ln := ((splitL 10 s.data.toList).dropLast).map fun l => lineOf readF ((splitL 32 l).map bt)
def trimB (s : ByteArray) : ByteArray := bt (Lib.trimSuffix s.data.toList [10])
def lineI (l : ByteArray) : Ln := lineOf atoiV (Lib.splitB ⟨#[32]⟩ 0 (min 7 (l.size + 1) - 1) l)
def implP (s : ByteArray) : List Ln := if s.size = 0 then [] else (Lib.splitB ⟨#[10]⟩ 0 (min 32 ((trimB s).size + 1) - 1) (trimB s)).map lineI
def acceptF (P : List Ln) (s : ByteArray) : List Ln × Bool := if laGoodF P = true ∧ textB P = s then (P, true) else ([], false)
def parseF (s : ByteArray) : List Ln × Bool := acceptF (specP s) s
theorem textB_list (P : List Ln) : (textB P).data.toList = ((P.map fun x => (lineE x).data.toList).map (· ++ [10])).flatten := by
  have h : ∀ (P : List Ln) (a : ByteArray), (P.foldl (fun a x => a ++ lineT x) a).data.toList = a.data.toList ++ ((P.map fun x => (lineE x).data.toList).map (· ++ [10])).flatten := by
    intro P
    induction P with
    | nil => intro a; simp
    | cons x P ih =>
      intro a
      rw [List.foldl_cons, ih]
      simp [lineT]
  have := h P (ByteArray.mk #[])
  simpa [textB] using this
theorem splitL_lines {c : UInt8} : ∀ (ls : List (List UInt8)), (∀ l ∈ ls, c ∉ l) → splitL c ((ls.map (· ++ [c])).flatten) = ls ++ [[]]
  | [], _ => rfl
  | l :: ls, h => by
    have e : (((l :: ls).map (· ++ [c])).flatten) = l ++ c :: ((ls.map (· ++ [c])).flatten) := by simp
    rw [e, splitL_hit _ (h l (List.mem_cons_self ..)), splitL_lines ls (fun x hx => h x (List.mem_cons_of_mem _ hx))]
    rfl
theorem join_free {c d : UInt8} (hcd : c ≠ d) : ∀ (r : List (List UInt8)) (w : List UInt8), c ∉ w → (∀ x ∈ r, c ∉ x) → c ∉ Lib.join (w :: r) [d]
  | [], w, h, _ => by rw [Lib.join_one]; exact h
  | v :: r, w, h, hr => by
    have e : Lib.join (w :: v :: r) [d] = w ++ d :: Lib.join (v :: r) [d] := by
      rw [Lib.join_cons, Lib.join_cons]
      simp [Lib.joinTail]
    have ih := join_free hcd r v (hr v (List.mem_cons_self ..)) (fun x hx => hr x (List.mem_cons_of_mem _ hx))
    rw [e, List.mem_append, List.mem_cons]
    rintro (hm | hm | hm)
    · exact h hm
    · exact hcd hm
    · exact ih hm
theorem words_cons (x : Ln) : ∃ w ws, wordsL x = w :: ws ∧ ws.length ≤ 4 := by
  unfold wordsL
  split
  · exact ⟨_, _, rfl, by simp⟩
  split
  · exact ⟨_, _, rfl, by simp⟩
  split
  · exact ⟨_, _, rfl, by simp⟩
  split
  · exact ⟨_, _, rfl, by simp⟩
  split
  · exact ⟨_, _, rfl, by simp⟩
  · exact ⟨_, _, rfl, by simp⟩
theorem lineE_list (x : Ln) : (lineE x).data.toList = Lib.join ((wordsL x).map (·.data.toList)) [32] := by
  rw [lineE_words]; simp [joinB]
theorem lineE_free {x : Ln} (h : LineIs x) : (10 : UInt8) ∉ (lineE x).data.toList := by
  obtain ⟨w, ws, e, _⟩ := words_cons x
  have hf := words_free h (c := 10) (.inr rfl)
  rw [e] at hf
  rw [lineE_list, e, List.map_cons]
  refine join_free (by decide) _ _ (hf w (List.mem_cons_self ..)) fun y hy => ?_
  rw [List.mem_map] at hy
  obtain ⟨v, hv, rfl⟩ := hy
  exact hf v (List.mem_cons_of_mem _ hv)
theorem splitL_line {x : Ln} (h : LineIs x) : (splitL 32 (lineE x).data.toList).map bt = wordsL x := by
  obtain ⟨w, ws, e, _⟩ := words_cons x
  have hf := words_free h (c := 32) (.inl rfl)
  rw [lineE_list]
  rw [e] at hf ⊢
  rw [List.map_cons, splitL_join _ _ (hf w (List.mem_cons_self ..)) (fun y hy => by
    rw [List.mem_map] at hy
    obtain ⟨v, hv, rfl⟩ := hy
    exact hf v (List.mem_cons_of_mem _ hv)), List.map_cons, List.map_map, bt_self]
  congr 1
  exact (List.map_congr_left fun v _ => bt_self v).trans (List.map_id _)
theorem join_len {c : UInt8} : ∀ (r : List (List UInt8)) (w : List UInt8), r.length ≤ (Lib.join (w :: r) [c]).length
  | [], w => by simp
  | v :: r, w => by
    have e : Lib.join (w :: v :: r) [c] = w ++ c :: Lib.join (v :: r) [c] := by
      rw [Lib.join_cons, Lib.join_cons]
      simp [Lib.joinTail]
    have ih := join_len (c := c) r v
    rw [e, List.length_append, List.length_cons, List.length_cons]
    omega
theorem lineI_line {x : Ln} (h : LineIs x) : lineI (lineE x) = x := by
  obtain ⟨w, ws, e, hl⟩ := words_cons x
  have hf := words_free h (c := 32) (.inl rfl)
  have hj := lineE_list x
  rw [e] at hf hj
  have hlen : ws.length ≤ (lineE x).size := by
    have h1 := join_len (c := 32) (ws.map (·.data.toList)) w.data.toList
    rw [← List.map_cons (f := fun y : ByteArray => y.data.toList), ← hj, List.length_map] at h1
    rw [Lib.size_eq]
    exact h1
  unfold lineI
  rw [splitB_join ws w _ (hf w (List.mem_cons_self ..)) (fun y hy => hf y (List.mem_cons_of_mem _ hy)) (by omega) _ hj, ← e]
  exact lineOf_words h fun n h0 h1 => atoiV_num h0 h1
theorem lines_is {P : List Ln} (hg : laGoodF P = true) : ∀ x ∈ P, LineIs x := fun x hx => by
  obtain ⟨k, hk, e⟩ := List.getElem_of_mem hx
  exact line_is hg (k := k) (by rw [List.getElem?_eq_getElem hk, e])
theorem spec_back {P : List Ln} (hg : laGoodF P = true) : specP (textB P) = P := by
  have hL := lines_is hg
  unfold specP
  rw [textB_list, splitL_lines _ (fun l hl => by
    rw [List.mem_map] at hl
    obtain ⟨x, hx, rfl⟩ := hl
    exact lineE_free (hL x hx)), List.dropLast_concat, List.map_map]
  refine (List.map_congr_left fun x hx => ?_).trans (List.map_id _)
  show lineOf readF ((splitL 32 (lineE x).data.toList).map bt) = x
  rw [splitL_line (hL x hx)]
  exact lineOf_words (hL x hx) fun n h0 h1 => readF_num h0 h1
theorem flat_join {c : UInt8} : ∀ (r : List (List UInt8)) (w : List UInt8), (((w :: r).map (· ++ [c])).flatten) = Lib.join (w :: r) [c] ++ [c]
  | [], w => by rw [Lib.join_one]; simp
  | v :: r, w => by
    have e : Lib.join (w :: v :: r) [c] = w ++ c :: Lib.join (v :: r) [c] := by
      rw [Lib.join_cons, Lib.join_cons]
      simp [Lib.joinTail]
    have ih := flat_join (c := c) r v
    rw [List.map_cons, List.flatten_cons, ih, e]
    simp
theorem trim_line (J : List UInt8) : Lib.trimSuffix (J ++ [10]) [10] = J := by
  unfold Lib.trimSuffix
  have h : Lib.hasSuffix (J ++ [10]) [10] = true := by simp [Lib.hasSuffix]
  rw [if_pos h]
  simp
theorem impl_back {P : List Ln} (hg : laGoodF P = true) : implP (textB P) = P := by
  have hL := lines_is hg
  have h30 := good_len hg
  cases P with
  | nil => rfl
  | cons x P =>
    have hl := textB_list (x :: P)
    rw [List.map_cons, flat_join] at hl
    have hs : (textB (x :: P)).size ≠ 0 := by
      intro e
      have h2 : (textB (x :: P)).data.toList.length = 0 := by rw [← Lib.size_eq]; exact e
      rw [hl] at h2
      simp at h2
    have ht : trimB (textB (x :: P)) = bt (Lib.join ((lineE x).data.toList :: P.map fun x => (lineE x).data.toList) [10]) := by
      unfold trimB
      rw [hl, trim_line]
    unfold implP
    rw [if_neg hs, ht]
    have hj := join_len (c := 10) (P.map fun x => (lineE x).data.toList) (lineE x).data.toList
    rw [List.length_map] at hj
    have hsz : (bt (Lib.join ((lineE x).data.toList :: P.map fun x => (lineE x).data.toList) [10])).size = (Lib.join ((lineE x).data.toList :: P.map fun x => (lineE x).data.toList) [10]).length := by simp [bt, ByteArray.size]
    rw [splitB_join (P.map lineE) (lineE x) _ (lineE_free (hL x (List.mem_cons_self ..))) (fun y hy => by
      rw [List.mem_map] at hy
      obtain ⟨v, hv, rfl⟩ := hy
      exact lineE_free (hL v (List.mem_cons_of_mem _ hv))) (by rw [hsz, List.length_map]; simp at h30; omega) _ (by rw [bt_list, List.map_cons, List.map_map]; rfl)]
    rw [List.map_cons, List.map_map, lineI_line (hL x (List.mem_cons_self ..))]
    congr 1
    exact (List.map_congr_left fun v hv => lineI_line (hL v (List.mem_cons_of_mem _ hv))).trans (List.map_id _)
/-- Both ways to read a text accept the same programs. -/
theorem parse_same (s : ByteArray) : acceptF (implP s) s = parseF s := by
  unfold parseF acceptF
  by_cases h : laGoodF (implP s) = true ∧ textB (implP s) = s
  · have e : specP s = implP s := by
      have := spec_back h.1
      rw [h.2] at this
      exact this
    rw [e]
  · by_cases k : laGoodF (specP s) = true ∧ textB (specP s) = s
    · have e : implP s = specP s := by
        have := impl_back k.1
        rw [k.2] at this
        exact this
      rw [e] at h
      exact absurd k h
    · rw [if_neg h, if_neg k]
/-- What is accepted is a valid program whose text it is. -/
theorem parseF_good {s : ByteArray} {P : List Ln} (h : parseF s = (P, true)) : laGoodF P = true ∧ textB P = s := by
  unfold parseF acceptF at h
  split at h
  · next g =>
    simp only [Prod.mk.injEq, and_true] at h
    rw [← h]
    exact g
  · simp at h
end Go.Proofs.YtdlddkgmjpmenaaGreatDoor
/-
  Programs read back: the reference's cutting and reading, walked.
-/
namespace Go.Proofs.YtdlddkgmjpmenaaGreatDoor
open Go.RowKit
set_option linter.unusedVariables false
set_option linter.unusedSimpArgs false

def bs (l : List UInt8) : ByteArray := ⟨l.toArray⟩
theorem strs_oneCell1 (ss : List ByteArray) : ∀ u ∈ ss.map Value.string, u.oneCell' = true := by
  intro u hu
  rw [List.mem_map] at hu
  obtain ⟨x, _, rfl⟩ := hu
  simp [Value.oneCell']
theorem wpList_append_s1 {w : World} {ops : Array Oper} {rest : List Oper} {o : Oper} {a : Act} {Q : Exit → Act → World → Prop} (hgd : o.guard = none) (s x : Operand)
    (ho : o.op = .call { callee := .builtin .append, args := #[s, x], argTypes := #[45, 45] })
    (B : Nat) (ao : Option Addr) (n cap : Nat) (xs : List ByteArray) (u : ByteArray) (hs : a.eval s = .slice ao n cap) (hx : a.eval x = .slice (some ⟨w.heap.size, 0, none⟩) 1 1)
    (hown : OwnSt B w ao n cap xs) (hn : n < 999999990) (hB : B ≤ w.heap.size)
    (h : ∀ ao' cap' w', OwnSt B w' ao' (n + 1) cap' (xs ++ [u]) → w.grownBy w' (rowOf ao cap) → wpList Tryz.prog ops Q rest (a.put o.dst (.slice ao' (n + 1) cap')) w') :
    wpList Tryz.prog ops Q (o :: rest) a (w.alloc (.cells #[.string u] 9)) :=
  wpList_append_new hgd s x 45 9 (.string ⟨#[]⟩) 1 16 Tryz.underlying45 str_info rfl (by decide) (by decide) ho B ao n cap (xs.map Value.string) 1 1 [.string u] hs hx rfl (by simp [Value.oneCell']) hown.2.2 (by omega) hB
    fun ao' cap' w' h1 h2 => h ao' cap' w' ⟨by simp [hown.1], by omega, by simpa using h1⟩ h2
theorem u8_ne {x c : UInt8} (h : x ≠ c) : ((x.toNat : Int) == (c.toNat : Int)) = false := by
  cases e : ((x.toNat : Int) == (c.toNat : Int)) with
  | false => rfl
  | true =>
    have h2 : (x.toNat : Int) = (c.toNat : Int) := by simpa using e
    exact absurd (UInt8.toNat_inj.1 (by omega)) h
theorem drop_cons {l : List UInt8} {k : Nat} {x : UInt8} (hk : l[k]? = some x) : l.drop k = x :: l.drop (k + 1) := by
  obtain ⟨h, e⟩ := List.getElem?_eq_some_iff.1 hk
  rw [List.drop_eq_getElem_cons h, e]
theorem drop_split {l : List UInt8} {f k : Nat} (hfk : f ≤ k) : l.drop f = (l.drop f).take (k - f) ++ l.drop k := by
  have h := (List.take_append_drop (k - f) (l.drop f)).symm
  rw [List.drop_drop, show f + (k - f) = k by omega] at h
  exact h
theorem split_hit {c : UInt8} {l : List UInt8} {f k : Nat} (hfk : f ≤ k) (hk : l[k]? = some c) (hfree : c ∉ (l.drop f).take (k - f)) : splitL c (l.drop f) = (l.drop f).take (k - f) :: splitL c (l.drop (k + 1)) := by
  have h := drop_split (l := l) hfk
  rw [drop_cons hk] at h
  have e : splitL c (l.drop f) = splitL c ((l.drop f).take (k - f) ++ c :: l.drop (k + 1)) := congrArg _ h
  rw [e, splitL_hit _ hfree]
theorem free_more {c : UInt8} {l : List UInt8} {f k : Nat} (hfk : f ≤ k) {x : UInt8} (hk : l[k]? = some x) (hx : x ≠ c) (hfree : c ∉ (l.drop f).take (k - f)) : c ∉ (l.drop f).take (k + 1 - f) := by
  have e : (l.drop f)[k - f]? = some x := by rw [List.getElem?_drop, show f + (k - f) = k by omega]; exact hk
  rw [show k + 1 - f = k - f + 1 by omega, List.take_add_one, e, List.mem_append]
  rintro (h | h)
  · exact hfree h
  · simp at h; exact hx h.symm
theorem split_end {c : UInt8} {l : List UInt8} {f : Nat} (hfree : c ∉ (l.drop f).take (l.length - f)) : splitL c (l.drop f) = [l.drop f] := by
  rw [List.take_of_length_le (by simp)] at hfree
  exact splitL_free hfree
theorem bs_extract (s : ByteArray) (a b : Nat) : s.extract a b = bs ((s.data.toList.drop a).take (b - a)) := by
  apply ByteArray.ext
  apply Array.ext'
  simp [bs, Lib.extract_data]
theorem byte_at {s : ByteArray} {k : Nat} (h : k < s.size) : s.data.toList[k]? = some s[k] := by
  rw [List.getElem?_eq_getElem (by simpa using h)]
  rfl
set_option maxRecDepth 20000 in
set_option maxHeartbeats 4000000 in
theorem l1Split_any (w : World) (s : ByteArray) (c : UInt8) (hs : s.size ≤ 1048576) :
    Calls Tryz.prog 56 #[.string s, .int .u8 c.toNat] w fun e w' => ∃ ao n cap, e = .returned (.slice ao n cap) ∧ OwnSt w.heap.size w' ao n cap ((splitL c s.data.toList).map bs) ∧ Below w.heap.size w w' := by
  go_enter Tryz.func56, Tryz.ntmps56
  go_wp2_with fail
  go_loopw [5, 6, 7] (fun s5 s6 s7 wr => ∃ (k f : Nat) (ao : Option Addr) (n cap : Nat) (out : List ByteArray), s5 = .slice ao n cap ∧ s6 = .int .i64 f ∧ s7 = .int .i64 k ∧ f ≤ k ∧ k ≤ s.size ∧ n ≤ k ∧ OwnSt w.heap.size wr ao n cap out ∧ Hid (c ∉ (s.data.toList.drop f).take (k - f)) ∧ Hid ((splitL c s.data.toList).map bs = out ++ (splitL c (s.data.toList.drop f)).map bs) ∧ Below w.heap.size w wr) (fun _ _ s7 _ => s.size - (intOf s7).toNat)
  case atStart => exact ⟨0, 0, _, 0, _, [], rfl, rfl, rfl, Nat.le_refl _, Nat.zero_le _, Nat.le_refl _, OwnSt.nil _ _ _, by show _ ∉ _; simp, by show _ = _; simp, Below.refl _ _⟩
  case round =>
    obtain ⟨k, f, ao, n, cap, out, rfl, rfl, rfl, hfk, hks, hnk, ho, hfree, hout, hbel⟩ := hrel
    by_cases hlt : k < s.size
    · have hk := byte_at hlt
      obtain ⟨x, hx⟩ : ∃ x, x = s[k] := ⟨_, rfl⟩
      rw [← hx] at hk
      have HX := Lib.hid hx
      by_cases he : x = c
      · subst he
        have hc : ((s[k].toNat : Int) == (x.toNat : Int)) = true := by rw [← hx]; simp
        have hout2 : Hid ((splitL x s.data.toList).map bs = (out ++ [s.extract f k]) ++ (splitL x (s.data.toList.drop (k + 1))).map bs) := by
          show _ = _
          rw [hout.out, split_hit hfk hk hfree.out, bs_extract]
          simp
        clear hx hk
        go_wp2_with (at_builtin; refine wpList_append_s1 rfl _ _ rfl w.heap.size _ _ _ _ _ rfl (by first | rfl | (simp; rfl)) ho (by omega) hbel.size ?_; intro ao' cap' w9 hown9 hg9)
        have hb9 := hbel.grown hg9 hbel.size (fun p hp => (ho.rowLt p hp).1)
        have hfree2 : Hid (x ∉ (s.data.toList.drop (k + 1)).take (k + 1 - (k + 1))) := by show _ ∉ _; simp
        go_roundw
        case rel => exact ⟨k + 1, k + 1, _, _, _, _, rfl, by go_num, by go_num, Nat.le_refl _, by omega, by omega, hown9, hfree2, hout2, hb9⟩
        case measure => simp [intOf] <;> omega
      · have hc : ((s[k].toNat : Int) == (c.toNat : Int)) = false := by rw [← hx]; exact u8_ne he
        have hfree2 : Hid (c ∉ (s.data.toList.drop f).take (k + 1 - f)) := free_more hfk hk he hfree.out
        clear hx hk
        go_wp2_with fail
        go_roundw
        case rel => exact ⟨k + 1, f, _, _, _, _, rfl, rfl, by go_num, by omega, by omega, by omega, ho, hfree2, hout, hbel⟩
        case measure => simp [intOf] <;> omega
    · obtain rfl : k = s.size := by omega
      have hlen : s.data.toList.length = s.size := by simp
      have hout2 : Hid (out ++ [s.extract f s.size] = (splitL c s.data.toList).map bs) := by
        show _ = _
        rw [hout.out, split_end (by rw [hlen]; exact hfree.out), bs_extract, List.take_of_length_le (by simp)]
        simp
      have HOUT2 := hout2
      go_wp2_with (at_builtin; refine wpList_append_s1 rfl _ _ rfl w.heap.size _ _ _ _ _ rfl (by first | rfl | (simp; rfl)) ho (by omega) hbel.size ?_; intro ao' cap' w9 hown9 hg9)
      go_ret
      exact ⟨_, _, _, rfl, by rw [← HOUT2.out]; exact hown9, hbel.grown hg9 hbel.size (fun p hp => (ho.rowLt p hp).1)⟩
theorem ret_int2 {a b : Int} (h : a = b) : Ending.returned (.int .i64 a) = .returned (.int .i64 b) := by rw [h]
theorem read_no {s : ByteArray} (h : s.size = 0 ∨ 6 < s.size) : readF s = -1 := by
  unfold readF
  rw [if_pos (by rcases h with h | h; exact .inl h; exact .inr (.inl h))]
set_option maxRecDepth 20000 in
set_option maxHeartbeats 4000000 in
theorem l1Read_any (w : World) (s : ByteArray) : Calls Tryz.prog 86 #[.string s] w fun e w' => e = .returned (.int .i64 (readF s)) ∧ w = w' := by
  by_cases hin : 1 ≤ s.size ∧ s.size ≤ 6
  rotate_left
  · have HR := Lib.hid (read_no (s := s) (by omega))
    have hd : inB (s.size : Int) 1 6 = false := by
      cases e : inB (s.size : Int) 1 6 with
      | false => rfl
      | true => have := inB_iff.1 e; omega
    go_enter Tryz.func86, Tryz.ntmps86
    go_wp2_with fail
    refine (l1In_any _ _ _ _).mono ?_
    rw [hd]
    rintro e w' ⟨rfl, rfl⟩
    go_wp2_with fail
    go_ret
    exact ⟨ret_int2 HR.out.symm, rfl⟩
  have hd : inB (s.size : Int) 1 6 = true := inB_iff.2 (by omega)
  have h0 : 0 < s.size := by omega
  have hk0 := byte_at h0
  obtain ⟨x0, hx0⟩ : ∃ x, x = s[0] := ⟨_, rfl⟩
  rw [← hx0] at hk0
  have hh : s.data.toList.head? = some x0 := by rw [List.head?_eq_getElem?]; exact hk0
  by_cases hz : x0 = 48 ∧ 1 < s.size
  · have HR : Hid (readF s = -1) := by
      show _ = _
      unfold readF
      rw [if_pos (.inr (.inr ⟨by rw [hh, hz.1], hz.2⟩))]
    have hc : ((s[0].toNat : Int) == 48) = true := by rw [← hx0, hz.1]; rfl
    have hg : (1 : Int) < s.size := by omega
    clear hx0 hk0 hh
    go_enter Tryz.func86, Tryz.ntmps86
    go_wp2_with fail
    refine (l1In_any _ _ _ _).mono ?_
    rw [hd]
    rintro e w' ⟨rfl, rfl⟩
    go_wp2_with fail
    go_ret
    exact ⟨ret_int2 HR.out.symm, rfl⟩
  have HR : Hid (readF s = digitsF s.data.toList 0) := by
    show _ = _
    unfold readF
    rw [if_neg]
    rintro (h | h | ⟨h, h2⟩)
    · omega
    · omega
    · rw [hh] at h
      exact hz ⟨by simpa using h, h2⟩
  have HX0 := Lib.hid hx0
  clear hx0 hk0
  go_enter Tryz.func86, Tryz.ntmps86
  go_upto_region 1 with fail
  go_cut [18] (fun s18 wx => s18 = .bool false ∧ wx = w)
  case first =>
    by_cases h48 : x0 = 48
    · have hc : ((s[0].toNat : Int) == 48) = true := by rw [← HX0.out, h48]; rfl
      have hg : ¬ (1 : Int) < s.size := fun h => hz ⟨h48, by omega⟩
      clear hz
      go_wp2_with fail
      refine (l1In_any _ _ _ _).mono ?_
      rw [hd]
      rintro e w' ⟨rfl, rfl⟩
      go_wp2_with fail
      go_meet
      exact ⟨by rw [decide_eq_false (by omega)], rfl⟩
    · have hc : ((s[0].toNat : Int) == 48) = false := by rw [← HX0.out]; exact u8_ne (c := 48) h48
      clear hz
      go_wp2_with fail
      refine (l1In_any _ _ _ _).mono ?_
      rw [hd]
      rintro e w' ⟨rfl, rfl⟩
      go_wp2_with fail
      go_meet
      exact ⟨rfl, rfl⟩
  case rest =>
    obtain ⟨rfl, rfl⟩ := hcut
    clear hz hd hh
    go_wp2_with fail
    go_loopw [3, 4] (fun s3 s4 wr => ∃ (k : Nat) (v : Int), s3 = .int .i64 v ∧ s4 = .int .i64 k ∧ k ≤ s.size ∧ 0 ≤ v ∧ Hid (v < 10 ^ k) ∧ Hid (digitsF s.data.toList 0 = digitsF (s.data.toList.drop k) v) ∧ wr = wc) (fun _ s4 _ => s.size - (intOf s4).toNat)
    case atStart => exact ⟨0, 0, rfl, rfl, Nat.zero_le _, by omega, (by decide : (0 : Int) < 10 ^ 0), by show _ = _; simp, rfl⟩
    case round =>
      obtain ⟨k, v, rfl, rfl, hk, hv0, hv1, hdg, rfl⟩ := hrel
      by_cases hlt : k < s.size
      · have hbk := byte_at hlt
        obtain ⟨x, hx⟩ : ∃ x, x = s[k] := ⟨_, rfl⟩
        rw [← hx] at hbk
        have hdr := drop_cons hbk
        have hxt : (s[k].toNat : Int) = (x.toNat : Int) := by rw [hx]
        have hv5 : v ≤ 100000 := by
          have h := hv1.out
          have h5 : k = 0 ∨ k = 1 ∨ k = 2 ∨ k = 3 ∨ k = 4 ∨ k = 5 := by omega
          rcases h5 with rfl | rfl | rfl | rfl | rfl | rfl <;> simp at h <;> omega
        have hx8 : x.toNat < 256 := x.toNat_lt
        by_cases hdig : 48 ≤ x.toNat ∧ x.toNat ≤ 57
        · have hstep : Hid (digitsF s.data.toList 0 = digitsF (s.data.toList.drop (k + 1)) (10 * v + ((x.toNat : Int) - 48))) := by
            show _ = _
            rw [hdg.out, hdr, digitsF, if_neg (by omega)]
          have t1 : ¬ (s[k].toNat : Int) < 48 := by rw [hxt]; omega
          have t2 : ¬ (57 : Int) < (s[k].toNat : Int) := by rw [hxt]; omega
          have t3 : IntKind.u8.wrap ((s[k].toNat : Int) - 48) = (x.toNat : Int) - 48 := by rw [hxt, IntKind.wrap_u8]; omega
          have hnv : Hid (10 * v + ((x.toNat : Int) - 48) < 10 ^ (k + 1)) := by
            show _ < _
            have h := hv1.out
            rw [Int.pow_succ]
            omega
          have hvc : 0 ≤ 10 * v + ((x.toNat : Int) - 48) := by omega
          have hvd : 10 * v + ((x.toNat : Int) - 48) ≤ 1000100 := by omega
          clear hx hxt hdr hbk
          go_wp2_with fail
          go_roundw
          case rel => exact ⟨k + 1, _, rfl, by go_num, by omega, hvc, hnv, hstep, trivial⟩
          case measure => simp [intOf] <;> omega
        · have HE : Hid (digitsF s.data.toList 0 = -1) := by
            show _ = _
            rw [hdg.out, hdr, digitsF, if_pos (by omega)]
          by_cases h1 : x.toNat < 48
          · have t1 : (s[k].toNat : Int) < 48 := by rw [hxt]; omega
            clear hx hxt hdr hbk
            go_wp2_with fail
            go_ret
            exact ⟨ret_int2 (by rw [HR.out, HE.out]), rfl⟩
          · have t1 : ¬ (s[k].toNat : Int) < 48 := by rw [hxt]; omega
            have t2 : (57 : Int) < (s[k].toNat : Int) := by rw [hxt]; omega
            clear hx hxt hdr hbk
            go_wp2_with fail
            go_ret
            exact ⟨ret_int2 (by rw [HR.out, HE.out]), rfl⟩
      · obtain rfl : k = s.size := by omega
        have HE : Hid (digitsF s.data.toList 0 = v) := by
          show _ = _
          rw [hdg.out, List.drop_of_length_le (by simp)]
          rfl
        go_wp2_with fail
        go_ret
        exact ⟨ret_int2 (by rw [HR.out, HE.out]), rfl⟩
end Go.Proofs.YtdlddkgmjpmenaaGreatDoor
