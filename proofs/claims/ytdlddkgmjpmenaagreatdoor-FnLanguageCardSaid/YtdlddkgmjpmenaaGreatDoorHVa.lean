/-
  The language: the numbers of lines of all operations: plain law; the reference.
-/
import Derived.Test.YtdlddkgmjpmenaaGreatDoorHWd
import Derived.Test.YtdlddkgmjpmenaaGreatDoorHB
import Derived.Test.YtdlddkgmjpmenaaGreatDoorHNd
namespace Go.Proofs.YtdlddkgmjpmenaaGreatDoor
open Go.RowKit
set_option linter.unusedVariables false
set_option linter.unusedSimpArgs false

/-- The place of an operation. -/
def opIdx (op : ByteArray) : Nat := (opsL.findIdx? (fun o => o == op)).getD 8
def slotOf (x : Ln) : Option Nat := if x.kind = 3 then some (opIdx x.op) else if x.kind = 4 then some 8 else if x.kind = 5 then some 9 else none
def bump (l : List Int) (i : Nat) : List Int := l.set i (l.getD i 0 + 1)
def countStep (l : List Int) (x : Ln) : List Int := match slotOf x with | some i => bump l i | none => l
def countsOf (ls : List Ln) : List Int := ls.foldl countStep (List.replicate 10 0)
def countOpsF (ls : List Ln) : List Int × Bool := if laGoodF ls = true then (countsOf ls, true) else ([], false)
theorem countsOf_step {ls : List Ln} {k : Nat} {x : Ln} (h : ls[k]? = some x) : countsOf (ls.take (k + 1)) = countStep (countsOf (ls.take k)) x := by
  unfold countsOf
  rw [List.take_add_one, h, List.foldl_append]; rfl
theorem bump_length (l : List Int) (i : Nat) : (bump l i).length = l.length := by simp [bump]
theorem countStep_length (l : List Int) (x : Ln) : (countStep l x).length = l.length := by unfold countStep; split <;> simp [bump_length]
def boundC (l : List Int) (k : Nat) : Prop := ∀ (i : Nat) (v : Int), l[i]? = some v → 0 ≤ v ∧ v ≤ k
theorem bound_bump {l : List Int} {k : Nat} (h : boundC l k) (i : Nat) : boundC (bump l i) (k + 1) := by
  intro j v hv
  unfold bump at hv
  rw [List.getElem?_set] at hv
  split at hv
  · next e =>
    split at hv
    · next hlt =>
      simp only [Option.some.injEq] at hv
      have e2 : l[i]? = some (l.getD i 0) := by rw [List.getD_eq_getElem?_getD, List.getElem?_eq_getElem hlt]; rfl
      have := h i _ e2
      omega
    · cases hv
  · have := h j v hv; omega
theorem bound_mono {l : List Int} {k : Nat} (h : boundC l k) : boundC l (k + 1) := fun i v hv => by have := h i v hv; omega
theorem bound_step {l : List Int} {k : Nat} (h : boundC l k) (x : Ln) : boundC (countStep l x) (k + 1) := by
  unfold countStep
  split
  · exact bound_bump h _
  · exact bound_mono h
theorem good_op {ls : List Ln} (hg : laGoodF ls = true) {k : Nat} {x : Ln} (h : ls[k]? = some x) (hk : x.kind = 3) : opsL.contains x.op = true := by
  have hok := ((widths_good ls).2 hg).2
  have h1 := laWidths_get h
  have h2 := hok.2.1 k _ h1
  unfold laWidth at h2
  split at h2
  · omega
  split at h2
  · omega
  split at h2
  · omega
  unfold kindW at h2
  rw [if_neg (by omega), if_neg (by omega), if_pos hk] at h2
  unfold laTwo at h2
  split at h2
  · omega
  · next g => cases hc : opsL.contains x.op
              · simp [hc] at g
                exact absurd g.2.1 (by simpa using hc)
              · rfl
/-- A valid operation: its place, the only one. -/
theorem op_place {op : ByteArray} (h : opsL.contains op = true) : ∃ c i, op = opB c ∧ i < 8 ∧ opIdx op = i ∧ Lib.indexByte opsBytes c = (i : Int) ∧ ∀ j o, opsL[j]? = some o → ((op == o) = decide (j = i)) := by
  have key : ∀ (c : UInt8) (i : Nat), i < 8 → (opsL.findIdx? (fun o => o == opB c)).getD 8 = i → Lib.indexByte opsBytes c = (i : Int) → (∀ j, j < 8 → (opsBytes[j]? = some c ↔ j = i)) → ∃ c' i, opB c = opB c' ∧ i < 8 ∧ opIdx (opB c) = i ∧ Lib.indexByte opsBytes c' = (i : Int) ∧ ∀ j o, opsL[j]? = some o → ((opB c == o) = decide (j = i)) := by
    intro c i hi h1 h2 h3
    refine ⟨c, i, rfl, hi, h1, h2, fun j o ho => ?_⟩
    have hj : j < 8 := (List.getElem?_eq_some_iff.1 ho).1
    have e : opsL[j]? = (opsBytes[j]?).map opB := by
      have : opsL = opsBytes.map opB := rfl
      rw [this, List.getElem?_map]
    rw [e] at ho
    obtain ⟨d, hd⟩ : ∃ d, opsBytes[j]? = some d := ⟨opsBytes[j]'hj, List.getElem?_eq_getElem hj⟩
    rw [hd] at ho
    simp only [Option.map_some, Option.some.injEq] at ho
    subst ho
    rw [opB_beq]
    have h4 := h3 j hj
    rw [hd] at h4
    simp only [Option.some.injEq] at h4
    by_cases hji : j = i
    · rw [h4.2 hji, hji]; simp
    · have : c ≠ d := fun e => hji (h4.1 e.symm)
      simp [this, hji]
  rcases ops_cases h with rfl | (rfl | rfl) | (rfl | rfl | rfl | rfl | rfl)
  · exact key 42 2 (by decide) (by simp [opsL, opB_beq]; rfl) (by decide) (by decide)
  · exact key 60 3 (by decide) (by simp [opsL, opB_beq]; rfl) (by decide) (by decide)
  · exact key 61 4 (by decide) (by simp [opsL, opB_beq]; rfl) (by decide) (by decide)
  · exact key 43 0 (by decide) (by simp [opsL, opB_beq]; rfl) (by decide) (by decide)
  · exact key 45 1 (by decide) (by simp [opsL, opB_beq]; rfl) (by decide) (by decide)
  · exact key 38 5 (by decide) (by simp [opsL, opB_beq]; rfl) (by decide) (by decide)
  · exact key 124 6 (by decide) (by simp [opsL, opB_beq]; rfl) (by decide) (by decide)
  · exact key 94 7 (by decide) (by simp [opsL, opB_beq]; rfl) (by decide) (by decide)
theorem indexOps_any (c : UInt8) (w : World) :
    Calls Tryz.prog 89 #[.string ⟨#[43, 45, 42, 60, 61, 38, 124, 94]⟩, .string ⟨#[c]⟩] w fun e w' => e = .returned (.int .i64 (Lib.indexByte opsBytes c)) ∧ w = w' :=
  sindex1_any _ _ _
/-- The row of counts: its cells may be read and written. -/
theorem row_at {w : World} {B g : Nat} {cur : List Int} (h : w.ownsRow B 3 1 (.slice (some ⟨g, 0, none⟩) 10 10) 10 (cur.map (Value.int .i64))) {i : Nat} (hi : i < 10) :
    cur[i]? = some (cur.getD i 0) ∧ w.cell? ⟨g, i, none⟩ = some (.int .i64 (cur.getD i 0)) ∧ w.frozen? ⟨g, i, none⟩ = false ∧
    (w.setCell ⟨g, i, none⟩ (.int .i64 (cur.getD i 0 + 1))).ownsRow B 3 1 (.slice (some ⟨g, 0, none⟩) 10 10) 10 ((bump cur i).map (Value.int .i64)) ∧ w.grownBy (w.setCell ⟨g, i, none⟩ (.int .i64 (cur.getD i 0 + 1))) (some g) := by
  have hl : cur.length = 10 := by have := h.1; simpa using this
  have e : cur[i]? = some (cur.getD i 0) := by rw [List.getD_eq_getElem?_getD, List.getElem?_eq_getElem (by omega)]; rfl
  have hst := World.ownsRow.stored h i (.int .i64 (cur.getD i 0 + 1))
  rw [← List.map_set] at hst
  refine ⟨e, ?_, World.ownsRow.frozenAt h i, hst.1, hst.2⟩
  rw [World.ownsRow.cellAt h i (by omega), List.getElem?_map, e]; rfl
theorem row_own {w : World} {B g : Nat} {cur : List Int} (h : w.ownsRow B 3 1 (.slice (some ⟨g, 0, none⟩) 10 10) 10 (cur.map (Value.int .i64))) : OwnI B w (some ⟨g, 0, none⟩) 10 10 cur :=
  ⟨by have := h.1; simpa using this, by decide, .inr ⟨g, rfl, h⟩⟩
def opsAt (b : Nat) : Option Addr := some ⟨b, 0, none⟩
theorem laOps3_any (w : World) : Calls Tryz.prog 74 #[] w fun e w' => e = .returned (.slice (opsAt w.heap.size) 8 8) ∧ w.heap.size < w'.heap.size ∧ (∀ j o, opsL[j]? = some o → w'.cell? ⟨w.heap.size, j, none⟩ = some (.string o)) ∧ Below w.heap.size w w' := by
  have hb0 : Below w.heap.size w (w.alloc opsObj) := (Below.refl _ _).alloc (Nat.le_refl _) _
  have hS : ∀ j o, opsL[j]? = some o → (w.alloc opsObj).cell? ⟨w.heap.size, j, none⟩ = some (.string o) := by
    intro j o ho
    rw [cell_of_row _ w.heap.size j _ _ (0, 0) (heap_alloc_new w opsObj)]
    have : (opsL.map Value.string)[j]? = some (.string o) := by rw [List.getElem?_map, ho]; rfl
    simpa [opsL, opB] using this
  have hz : w.heap.size < (w.alloc opsObj).heap.size := by simp
  unfold opsObj at hS hb0 hz
  go_enter Tryz.func74, Tryz.ntmps74
  go_wp2
  go_ret
  exact ⟨rfl, hz, hS, hb0⟩
end Go.Proofs.YtdlddkgmjpmenaaGreatDoor
/-
  The language: the values of all lines: plain law.
-/
namespace Go.Proofs.YtdlddkgmjpmenaaGreatDoor
open Go.RowKit
set_option linter.unusedVariables false
set_option linter.unusedSimpArgs false

/-- A number fits into a width. -/
def fits (v w : Int) : Prop := 0 ≤ v ∧ v ≤ 2 ^ w.toNat - 1
def fitB (ws ns : List Int) : Bool := decide (ws.length = ns.length) && ((ws.zip ns).all fun p => inB p.2 0 (2 ^ p.1.toNat - 1))
def askedB (ls : List Ln) (a b : List Int) : Bool := laGoodF ls && (fitB (inputsL ls 0) a && fitB (inputsL ls 1) b)
theorem fitB_at {ws ns : List Int} (h : fitB ws ns = true) : ws.length = ns.length ∧ ∀ (i : Nat) (w v : Int), ws[i]? = some w → ns[i]? = some v → fits v w := by
  unfold fitB at h
  rw [Bool.and_eq_true, List.all_eq_true] at h
  refine ⟨by simpa using h.1, fun i w v hw hv => ?_⟩
  have hm : (w, v) ∈ ws.zip ns := by
    refine List.mem_of_getElem? (i := i) ?_
    rw [List.getElem?_zip_eq_some]
    exact ⟨hw, hv⟩
  exact inB_iff.1 (h.2 _ hm)
def opF (op : ByteArray) (w a b : Int) : Int :=
  if (op == opB 43) = true then (a + b) % 2 ^ w.toNat
  else if (op == opB 45) = true then (a - b) % 2 ^ w.toNat
  else if (op == opB 42) = true then a * b
  else if (op == opB 60) = true then (if a < b then 1 else 0)
  else if (op == opB 61) = true then (if a = b then 1 else 0)
  else if (op == opB 38) = true then ((a.toNat &&& b.toNat : Nat) : Int)
  else if (op == opB 124) = true then ((a.toNat ||| b.toNat : Nat) : Int)
  else ((a.toNat ^^^ b.toNat : Nat) : Int)
theorem pow_cast (n : Nat) : ((2 : Int) ^ n) = ((2 ^ n : Nat) : Int) := by simp
theorem fits_nat {a b n : Nat} : fits (a : Int) (n : Int) ↔ a < 2 ^ n := by
  unfold fits
  rw [Int.toNat_natCast, pow_cast]
  have : 0 < 2 ^ n := Nat.two_pow_pos n
  omega
theorem op_fits {op : ByteArray} {w a b : Int} (hop : opsL.contains op = true) (hw : 1 ≤ w ∧ w ≤ 10) (ha : fits a w) (hb : fits b w) : fits (opF op w a b) (laTwo op w w) ∨ laTwo op w w = 0 := by
  obtain ⟨n, rfl⟩ := Int.eq_ofNat_of_zero_le (show 0 ≤ w by omega)
  obtain ⟨x, rfl⟩ := Int.eq_ofNat_of_zero_le ha.1
  obtain ⟨y, rfl⟩ := Int.eq_ofNat_of_zero_le hb.1
  have hx : x < 2 ^ n := (fits_nat (b := 0)).1 ha
  have hy : y < 2 ^ n := (fits_nat (b := 0)).1 hb
  have hp : 0 < 2 ^ n := Nat.two_pow_pos n
  have hpi : (0 : Int) < 2 ^ n := by rw [pow_cast]; omega
  have hn1 : 1 ≤ n := by omega
  have one : (1 : Nat) < 2 ^ 1 := by decide
  rcases ops_cases hop with rfl | (rfl | rfl) | (rfl | rfl | rfl | rfl | rfl)
  · by_cases h10 : 2 * (n : Int) > 10
    · right; unfold laTwo; simp [opsL, opB_beq, h10]
    · left
      have e1 : opF (opB 42) n x y = ((x * y : Nat) : Int) := by unfold opF; simp [opB_beq]
      have e2 : laTwo (opB 42) n n = ((2 * n : Nat) : Int) := by unfold laTwo; simp [opsL, opB_beq, h10]
      rw [e1, e2, fits_nat (b := 0), Nat.two_mul, Nat.pow_add]
      exact Nat.mul_lt_mul'' hx hy
  · left
    have e2 : laTwo (opB 60) n n = ((1 : Nat) : Int) := by unfold laTwo; simp [opsL, opB_beq]
    have e1 : opF (opB 60) n x y = if (x : Int) < y then 1 else 0 := by unfold opF; simp [opB_beq]
    rw [e1, e2]
    split
    · exact (fits_nat (a := 1) (b := 0)).2 (by decide)
    · exact (fits_nat (a := 0) (b := 0)).2 (by decide)
  · left
    have e2 : laTwo (opB 61) n n = ((1 : Nat) : Int) := by unfold laTwo; simp [opsL, opB_beq]
    have e1 : opF (opB 61) n x y = if (x : Int) = y then 1 else 0 := by unfold opF; simp [opB_beq]
    rw [e1, e2]
    split
    · exact (fits_nat (a := 1) (b := 0)).2 (by decide)
    · exact (fits_nat (a := 0) (b := 0)).2 (by decide)
  · left
    have e2 : laTwo (opB 43) n n = (n : Int) := by unfold laTwo; simp [opsL, opB_beq]
    have e1 : opF (opB 43) n x y = ((x : Int) + y) % 2 ^ n := by unfold opF; simp [opB_beq]
    rw [e1, e2]
    exact ⟨Int.emod_nonneg _ (by omega), by rw [Int.toNat_natCast]; have := Int.emod_lt_of_pos ((x : Int) + y) hpi; omega⟩
  · left
    have e2 : laTwo (opB 45) n n = (n : Int) := by unfold laTwo; simp [opsL, opB_beq]
    have e1 : opF (opB 45) n x y = ((x : Int) - y) % 2 ^ n := by unfold opF; simp [opB_beq]
    rw [e1, e2]
    exact ⟨Int.emod_nonneg _ (by omega), by rw [Int.toNat_natCast]; have := Int.emod_lt_of_pos ((x : Int) - y) hpi; omega⟩
  · left
    have e2 : laTwo (opB 38) n n = (n : Int) := by unfold laTwo; simp [opsL, opB_beq]
    have e1 : opF (opB 38) n x y = ((x &&& y : Nat) : Int) := by unfold opF; simp [opB_beq]
    rw [e1, e2, fits_nat (b := 0)]
    exact Nat.and_lt_two_pow x hy
  · left
    have e2 : laTwo (opB 124) n n = (n : Int) := by unfold laTwo; simp [opsL, opB_beq]
    have e1 : opF (opB 124) n x y = ((x ||| y : Nat) : Int) := by unfold opF; simp [opB_beq]
    rw [e1, e2, fits_nat (b := 0)]
    exact Nat.or_lt_two_pow hx hy
  · left
    have e2 : laTwo (opB 94) n n = (n : Int) := by unfold laTwo; simp [opsL, opB_beq]
    have e1 : opF (opB 94) n x y = ((x ^^^ y : Nat) : Int) := by unfold opF; simp [opB_beq]
    rw [e1, e2, fits_nat (b := 0)]
    exact Nat.xor_lt_two_pow hx hy
/-- In a program each part of line k is the name of a line ahead of it. -/
theorem good_find {ls : List Ln} (hg : laGoodF ls = true) {k : Nat} {x : Ln} (h : ls[k]? = some x) {p : ByteArray} (hp : p ∈ x.parts) : findF ls p = findF (ls.take k) p ∧ 0 ≤ findF ls p ∧ findF ls p < k := by
  have hok := ((widths_good ls).2 hg).2
  have h1 := laWidths_get h
  have h2 := hok.2.1 k _ h1
  unfold laWidth at h2
  split at h2
  · omega
  · next w hw =>
    have h3 := parts_found hw p hp
    unfold findF at h3 ⊢
    cases hf : (ls.take k).findIdx? (findB p) with
    | none => rw [hf] at h3; simp at h3
    | some i =>
      have hf2 : ls.findIdx? (findB p) = some i := by
        rw [List.findIdx?_eq_some_iff_getElem] at hf ⊢
        obtain ⟨hi, hb, hmin⟩ := hf
        rw [List.length_take] at hi
        refine ⟨by omega, by simpa using hb, fun j hj => ?_⟩
        have := hmin j hj
        simpa using this
      have hi : i < k := by
        rw [List.findIdx?_eq_some_iff_getElem] at hf
        obtain ⟨hi, _⟩ := hf
        rw [List.length_take] at hi
        omega
      rw [hf2]
      simp
      exact hi
theorem partsBy_map {f : ByteArray → Int} {ws : List Int} : ∀ {ps : List ByteArray} {w : List Int}, partsBy f ws ps = some w → w = ps.map fun p => atN ws (f p)
  | [], w, h => by simp [partsBy] at h; rw [h]; rfl
  | q :: r, w, h => by
    unfold partsBy at h
    split at h
    · cases h
    · cases hr : partsBy f ws r with
      | none => rw [hr] at h; simp at h
      | some v =>
        rw [hr] at h
        simp at h
        rw [← h, partsBy_map hr]; rfl
def wideL (ls : List Ln) (ws : List Int) (x : Ln) : List Int := x.parts.map fun p => atN ws (findF ls p)
theorem laWidths_take {ls : List Ln} {k : Nat} (hk : k ≤ ls.length) {i : Int} (h0 : 0 ≤ i) (hi : i < k) : atN (laWidths (ls.take k)) i = atN (laWidths ls) i := by
  obtain ⟨n, rfl⟩ := Int.eq_ofNat_of_zero_le h0
  have hn : n < k := by omega
  obtain ⟨t, ht, _⟩ := laWidthsFrom_prefix (ls.drop k) (ls.take k) (laWidths (ls.take k))
  have e : laWidths ls = laWidths (ls.take k) ++ t := by
    have e1 : laWidths ls = laWidthsFrom [] [] (ls.take k ++ ls.drop k) := by rw [List.take_append_drop]; rfl
    rw [e1, laWidthsFrom_append, List.nil_append]
    exact ht
  unfold atN
  rw [e, List.getD_eq_getElem?_getD, List.getD_eq_getElem?_getD, List.getElem?_append_left (by rw [laWidths_length, List.length_take]; simp; omega)]
/-- What holds of line k of a program. -/
theorem good_line {ls : List Ln} (hg : laGoodF ls = true) {k : Nat} {x : Ln} (h : ls[k]? = some x) :
    ((wideL ls (laWidths ls) x).length : Int) = laParts x.kind ∧ fieldsB x = true ∧ (laWidths ls)[k]? = some (kindW x (wideL ls (laWidths ls) x)) ∧ (1 ≤ kindW x (wideL ls (laWidths ls) x) ∧ kindW x (wideL ls (laWidths ls) x) ≤ 10) := by
  have hk : k < ls.length := (List.getElem?_eq_some_iff.1 h).1
  have hok := ((widths_good ls).2 hg).2
  have h1 := laWidths_get h
  have h2 := hok.2.1 k _ h1
  rw [h1]
  unfold laWidth at h2 ⊢
  cases hw : partsBy (findF (ls.take k)) (laWidths (ls.take k)) x.parts with
  | none => rw [hw] at h2; simp at h2
  | some w =>
    have e : w = wideL ls (laWidths ls) x := by
      rw [partsBy_map hw]
      unfold wideL
      refine List.map_congr_left fun p hp => ?_
      obtain ⟨a, b, c⟩ := good_find hg h hp
      rw [← a]
      exact laWidths_take (by omega) b c
    rw [hw] at h2
    simp only [] at h2 ⊢
    subst e
    split at h2
    · omega
    · next g1 =>
      split at h2
      · omega
      · next g2 =>
        rw [if_neg g1, if_neg g2]
        simp only [Bool.or_eq_true, not_or, Bool.not_eq_true', Bool.not_eq_false, bne_iff_ne, ne_eq, Decidable.not_not] at g2
        exact ⟨g2.2, g2.1, rfl, h2⟩
/-- The value of a line. -/
def lineVal (ls : List Ln) (ws a b : List Int) (x : Ln) (vs : List Int) (t0 t1 : Nat) : Int :=
  let pv := x.parts.map fun p => atN vs (findF ls p)
  let pw := wideL ls ws x
  if x.kind = 1 then (if x.party = 1 then b.getD t1 0 else a.getD t0 0)
  else if x.kind = 2 then x.value
  else if x.kind = 3 then opF x.op (pw.getD 0 0) (pv.getD 0 0) (pv.getD 1 0)
  else if x.kind = 4 then 2 ^ (pw.getD 0 0).toNat - 1 - pv.getD 0 0
  else if x.kind = 5 then pv.getD (2 - pv.getD 0 0).toNat 0
  else pv.getD 0 0
abbrev SV := List Int × Nat × Nat
def stepV (ls : List Ln) (ws a b : List Int) (s : SV) (x : Ln) : SV :=
  (s.1 ++ [lineVal ls ws a b x s.1 s.2.1 s.2.2], if x.kind = 1 ∧ x.party ≠ 1 then s.2.1 + 1 else s.2.1, if x.kind = 1 ∧ x.party = 1 then s.2.2 + 1 else s.2.2)
def runV (ls : List Ln) (a b : List Int) (k : Nat) : SV := (ls.take k).foldl (stepV ls (laWidths ls) a b) ([], 0, 0)
def valsL (ls : List Ln) (a b : List Int) : List Int := (runV ls a b ls.length).1
def valF (ls : List Ln) (a b : List Int) : List Int × Bool := if askedB ls a b = true then (valsL ls a b, true) else ([], false)
theorem runV_step {ls : List Ln} {a b : List Int} {k : Nat} {x : Ln} (h : ls[k]? = some x) : runV ls a b (k + 1) = stepV ls (laWidths ls) a b (runV ls a b k) x := by
  unfold runV
  rw [List.take_add_one, h, List.foldl_append]; rfl
/-- What holds behind k lines. -/
structure OkV (ls : List Ln) (a b : List Int) (k : Nat) (s : SV) : Prop where
  len : s.1.length = k
  fit : ∀ (i : Nat) (v w : Int), s.1[i]? = some v → (laWidths ls)[i]? = some w → fits v w
  n0 : s.2.1 = (inputsL (ls.take k) 0).length
  n1 : s.2.2 = (inputsL (ls.take k) 1).length
theorem inputsL_append (a b : List Ln) (p : Int) : inputsL (a ++ b) p = inputsL a p ++ inputsL b p := by
  unfold inputsL
  rw [List.filter_append, List.map_append]
theorem inputs_here {ls : List Ln} {k : Nat} {x : Ln} (h : ls[k]? = some x) {p : Int} (hk : x.kind = 1) (hp : x.party = p) : (inputsL ls p)[(inputsL (ls.take k) p).length]? = some x.width := by
  have hlt : k < ls.length := (List.getElem?_eq_some_iff.1 h).1
  have e : ls = ls.take k ++ x :: ls.drop (k + 1) := by
    have e1 := List.take_append_drop k ls
    rw [List.drop_eq_getElem_cons hlt] at e1
    rw [List.getElem?_eq_getElem hlt] at h
    simp only [Option.some.injEq] at h
    rw [← h]
    exact e1.symm
  have e2 : inputsL ls p = inputsL (ls.take k) p ++ (x.width :: inputsL (ls.drop (k + 1)) p) := by
    rw [e, inputsL_append]
    congr 1
    · rw [← e]
    · unfold inputsL
      rw [List.filter_cons_of_pos (by simp [hk, hp]), List.map_cons, ← e]
  rw [e2, List.getElem?_append_right (Nat.le_refl _), Nat.sub_self]
  rfl
theorem inputs_step {ls : List Ln} {k : Nat} {x : Ln} (h : ls[k]? = some x) (p : Int) : (inputsL (ls.take (k + 1)) p).length = (inputsL (ls.take k) p).length + (if x.kind = 1 ∧ x.party = p then 1 else 0) := by
  rw [List.take_add_one, h, inputsL_append, List.length_append]
  congr 1
  unfold inputsL
  by_cases hc : x.kind = 1 ∧ x.party = p
  · rw [if_pos hc]; simp [hc.1, hc.2]
  · rw [if_neg hc]
    have : (x.kind == 1 && x.party == p) = false := by
      cases hb : (x.kind == 1 && x.party == p)
      · rfl
      · simp only [Bool.and_eq_true, beq_iff_eq] at hb; exact (hc hb).elim
    simp [this]
theorem asked_good {ls : List Ln} {a b : List Int} (h : askedB ls a b = true) : laGoodF ls = true ∧ fitB (inputsL ls 0) a = true ∧ fitB (inputsL ls 1) b = true := by
  unfold askedB at h
  simp only [Bool.and_eq_true] at h
  exact h
theorem getD_some {l : List Int} {i : Nat} (h : i < l.length) : l[i]? = some (l.getD i 0) := by rw [List.getD_eq_getElem?_getD, List.getElem?_eq_getElem h]; rfl
theorem atN_some {l : List Int} {f : Int} (h0 : 0 ≤ f) (h1 : f < l.length) : l[f.toNat]? = some (atN l f) := getD_some (by omega)
/-- The parts' values fit their widths. -/
theorem part_fits {ls : List Ln} {a b : List Int} {k : Nat} {x : Ln} {s : SV} (hg : laGoodF ls = true) (h : ls[k]? = some x) (ho : OkV ls a b k s) {p : ByteArray} (hp : p ∈ x.parts) : fits (atN s.1 (findF ls p)) (atN (laWidths ls) (findF ls p)) := by
  obtain ⟨_, h0, h1⟩ := good_find hg h hp
  have hk : k < ls.length := (List.getElem?_eq_some_iff.1 h).1
  exact ho.fit _ _ _ (atN_some h0 (by rw [ho.len]; exact h1)) (atN_some h0 (by rw [laWidths_length]; omega))
theorem pow_pos10 (w : Int) : (0 : Int) < 2 ^ w.toNat := by rw [pow_cast]; have := Nat.two_pow_pos w.toNat; omega
/-- The value of a line fits its width. -/
theorem line_fits {ls : List Ln} {a b : List Int} {k : Nat} {x : Ln} {s : SV} (hq : askedB ls a b = true) (h : ls[k]? = some x) (ho : OkV ls a b k s) : fits (lineVal ls (laWidths ls) a b x s.1 s.2.1 s.2.2) (kindW x (wideL ls (laWidths ls) x)) := by
  obtain ⟨hg, fa, fb⟩ := asked_good hq
  obtain ⟨g1, g2, g3, g4⟩ := good_line hg h
  have hpf := fun p hp => part_fits (p := p) hg h ho hp
  have hnz : kindW x (wideL ls (laWidths ls) x) ≠ 0 := by omega
  unfold lineVal
  unfold wideL at *
  by_cases k1 : x.kind = 1
  · have e : kindW x (x.parts.map fun p => atN (laWidths ls) (findF ls p)) = x.width ∧ (0 ≤ x.party ∧ x.party ≤ 1) := by
      unfold kindW at hnz ⊢
      rw [if_pos k1] at hnz ⊢
      split at hnz
      · next g => rw [if_pos g]; simp only [Bool.and_eq_true, inB_iff] at g; exact ⟨rfl, g.1⟩
      · exact (hnz rfl).elim
    rw [e.1]
    simp only [k1, if_true]
    by_cases p1 : x.party = 1
    · rw [if_pos p1]
      have hi := inputs_here h k1 p1
      have hf := fitB_at fb
      have hlt : (inputsL (ls.take k) 1).length < b.length := by rw [← hf.1]; exact (List.getElem?_eq_some_iff.1 hi).1
      rw [ho.n1]
      exact hf.2 _ _ _ hi (getD_some hlt)
    · rw [if_neg p1]
      have p0 : x.party = 0 := by omega
      have hi := inputs_here h k1 p0
      have hf := fitB_at fa
      have hlt : (inputsL (ls.take k) 0).length < a.length := by rw [← hf.1]; exact (List.getElem?_eq_some_iff.1 hi).1
      rw [ho.n0]
      exact hf.2 _ _ _ hi (getD_some hlt)
  simp only [k1, if_false]
  by_cases k2 : x.kind = 2
  · simp only [k2, if_true]
    unfold kindW at hnz ⊢
    rw [if_neg k1, if_pos k2] at hnz ⊢
    split at hnz
    · next g => rw [if_pos g]; simp only [Bool.and_eq_true, inB_iff] at g; exact g.2
    · exact (hnz rfl).elim
  simp only [k2, if_false]
  rw [List.length_map] at g1
  by_cases k3 : x.kind = 3
  · have hop := good_op hg h k3
    simp only [k3, if_true]
    rw [k3] at g1
    match hps : x.parts, g1 with
    | [p0, p1], _ =>
      have f0 := hpf p0 (by rw [hps]; simp)
      have f1 := hpf p1 (by rw [hps]; simp)
      rw [hps] at hnz g4
      simp only [List.map_cons, List.map_nil] at hnz g4 ⊢
      have e : kindW x [atN (laWidths ls) (findF ls p0), atN (laWidths ls) (findF ls p1)] = laTwo x.op (atN (laWidths ls) (findF ls p0)) (atN (laWidths ls) (findF ls p1)) := by
        unfold kindW; rw [if_neg k1, if_neg k2, if_pos k3]; rfl
      rw [e] at hnz ⊢
      have ew : atN (laWidths ls) (findF ls p0) = atN (laWidths ls) (findF ls p1) := by
        by_cases he : atN (laWidths ls) (findF ls p0) = atN (laWidths ls) (findF ls p1)
        · exact he
        · exfalso; apply hnz; unfold laTwo; rw [if_pos (by simp [he])]
      have hk : k < ls.length := (List.getElem?_eq_some_iff.1 h).1
      obtain ⟨_, h0, h1⟩ := good_find hg h (p := p0) (by rw [hps]; simp)
      have hw := ((widths_good ls).2 hg).2.2.1 _ _ (atN_some (l := laWidths ls) h0 (by rw [laWidths_length]; omega))
      rw [← ew] at f1 hnz ⊢
      rcases op_fits hop hw f0 f1 with hh | hh
      · exact hh
      · exact (hnz hh).elim
  simp only [k3, if_false]
  by_cases k4 : x.kind = 4
  · simp only [k4, if_true]
    rw [k4] at g1
    match hps : x.parts, g1 with
    | [p0], _ =>
      have f0 := hpf p0 (by rw [hps]; simp)
      simp only [List.map_cons, List.map_nil]
      have e : kindW x [atN (laWidths ls) (findF ls p0)] = atN (laWidths ls) (findF ls p0) := by
        unfold kindW; rw [if_neg k1, if_neg k2, if_neg k3, if_pos (.inl k4)]; rfl
      rw [e]
      unfold fits at f0 ⊢
      show 0 ≤ 2 ^ (atN (laWidths ls) (findF ls p0)).toNat - 1 - atN s.1 (findF ls p0) ∧ 2 ^ (atN (laWidths ls) (findF ls p0)).toNat - 1 - atN s.1 (findF ls p0) ≤ 2 ^ (atN (laWidths ls) (findF ls p0)).toNat - 1
      omega
  simp only [k4, if_false]
  by_cases k5 : x.kind = 5
  · simp only [k5, if_true]
    rw [k5] at g1
    match hps : x.parts, g1 with
    | [p0, p1, p2], _ =>
      have f0 := hpf p0 (by rw [hps]; simp)
      have f1 := hpf p1 (by rw [hps]; simp)
      have f2 := hpf p2 (by rw [hps]; simp)
      rw [hps] at hnz
      simp only [List.map_cons, List.map_nil] at hnz ⊢
      unfold kindW at hnz ⊢
      rw [if_neg k1, if_neg k2, if_neg k3, if_neg (by omega), if_pos k5] at hnz ⊢
      split at hnz
      · next g =>
        rw [if_pos g]
        simp only [Bool.and_eq_true, beq_iff_eq] at g
        obtain ⟨ga, gb⟩ := g
        change atN (laWidths ls) (findF ls p0) = 1 at ga
        change atN (laWidths ls) (findF ls p1) = atN (laWidths ls) (findF ls p2) at gb
        rw [ga] at f0
        unfold fits at f0
        have f0' : atN s.1 (findF ls p0) = 0 ∨ atN s.1 (findF ls p0) = 1 := by
          have : (2 : Int) ^ (1 : Int).toNat = 2 := rfl
          omega
        show fits (([atN s.1 (findF ls p0), atN s.1 (findF ls p1), atN s.1 (findF ls p2)] : List Int).getD (2 - atN s.1 (findF ls p0)).toNat 0) (atN (laWidths ls) (findF ls p1))
        rcases f0' with e | e
        · rw [e, gb]; exact f2
        · rw [e]; exact f1
      · exact (hnz rfl).elim
  simp only [k5, if_false]
  by_cases k6 : x.kind = 6
  · rw [k6] at g1
    match hps : x.parts, g1 with
    | [p0], _ =>
      have f0 := hpf p0 (by rw [hps]; simp)
      simp only [List.map_cons, List.map_nil]
      have e : kindW x [atN (laWidths ls) (findF ls p0)] = atN (laWidths ls) (findF ls p0) := by
        unfold kindW; rw [if_neg k1, if_neg k2, if_neg k3, if_pos (.inr k6)]; rfl
      rw [e]
      exact f0
  · exfalso
    apply hnz
    unfold kindW
    rw [if_neg k1, if_neg k2, if_neg k3, if_neg (by omega), if_neg k5]
theorem okV_step {ls : List Ln} {a b : List Int} {k : Nat} {x : Ln} {s : SV} (hq : askedB ls a b = true) (h : ls[k]? = some x) (ho : OkV ls a b k s) : OkV ls a b (k + 1) (stepV ls (laWidths ls) a b s x) := by
  obtain ⟨hg, fa, fb⟩ := asked_good hq
  have hf := line_fits hq h ho
  have hw := (good_line hg h).2.2.1
  unfold stepV
  refine ⟨by simp [ho.len], fun i v w hv hw2 => ?_, ?_, ?_⟩
  · by_cases hi : i < k
    · rw [List.getElem?_append_left (by rw [ho.len]; exact hi)] at hv
      exact ho.fit i v w hv hw2
    · rw [List.getElem?_append_right (by rw [ho.len]; omega), ho.len] at hv
      by_cases he : i = k
      · subst he
        rw [Nat.sub_self] at hv
        simp at hv
        rw [hw] at hw2
        simp only [Option.some.injEq] at hw2
        rw [← hv, ← hw2]
        exact hf
      · rw [List.getElem?_eq_none (by simp; omega)] at hv; cases hv
  · show (if x.kind = 1 ∧ x.party ≠ 1 then s.2.1 + 1 else s.2.1) = _
    rw [inputs_step h 0, ← ho.n0]
    have hp : x.kind = 1 → (0 ≤ x.party ∧ x.party ≤ 1) := fun k1 => by
      have hnz := (good_line hg h).2.2.2
      unfold kindW at hnz
      rw [if_pos k1] at hnz
      split at hnz
      · next g => simp only [Bool.and_eq_true, inB_iff] at g; exact g.1
      · omega
    by_cases k1 : x.kind = 1
    · have := hp k1
      by_cases p1 : x.party = 1
      · rw [if_neg (by omega), if_neg (by omega)]; rfl
      · rw [if_pos ⟨k1, p1⟩, if_pos ⟨k1, by omega⟩]
    · rw [if_neg (by omega), if_neg (by omega)]; rfl
  · show (if x.kind = 1 ∧ x.party = 1 then s.2.2 + 1 else s.2.2) = _
    rw [inputs_step h 1, ← ho.n1]
    split <;> rfl
theorem okV_run {ls : List Ln} {a b : List Int} (hq : askedB ls a b = true) : ∀ k, k ≤ ls.length → OkV ls a b k (runV ls a b k)
  | 0, _ => ⟨rfl, fun i v w hv => by simp [runV] at hv, by simp [runV, inputsL], by simp [runV, inputsL]⟩
  | k + 1, hk => by
    have hx : ls[k]? = some (ls[k]'(by omega)) := List.getElem?_eq_getElem (by omega)
    rw [runV_step hx]
    exact okV_step hq hx (okV_run hq k (by omega))
end Go.Proofs.YtdlddkgmjpmenaaGreatDoor
/-
  The language: operations on numbers, both ways.
-/
namespace Go.Proofs.YtdlddkgmjpmenaaGreatDoor
open Go.RowKit
set_option linter.unusedVariables false
set_option linter.unusedSimpArgs false

/-- A number's lowest bits. -/
theorem and_mask (z : Int) (n : Nat) (hn : n ≤ 10) : bits .and .i64 z (2 ^ n - 1) = z % 2 ^ n := by
  have hp : 0 < 2 ^ n := Nat.two_pow_pos n
  have hle : 2 ^ n ≤ 1024 := by
    have := Nat.pow_le_pow_right (show 0 < 2 by decide) hn
    simpa using this
  have e1 : ((2 : Int) ^ n - 1) = ((2 ^ n - 1 : Nat) : Int) := by rw [pow_cast]; omega
  show IntKind.i64.wrap ((BitVec.ofInt 64 z &&& BitVec.ofInt 64 (2 ^ n - 1)).toNat : Int) = _
  rw [e1, BitVec.toNat_and, ofInt_i64 (2 ^ n - 1) (by omega), Nat.and_two_pow_sub_one_eq_mod, BitVec.toNat_ofInt]
  have h64 : (0 : Int) ≤ z % (2 ^ 64 : Nat) := Int.emod_nonneg _ (by decide)
  have e2 : (((z % (2 ^ 64 : Nat)).toNat % 2 ^ n : Nat) : Int) = z % 2 ^ n := by
    rw [Int.natCast_emod, Int.toNat_of_nonneg h64, ← pow_cast]
    refine Int.emod_emod_of_dvd z ?_
    rw [pow_cast]
    exact Int.natCast_dvd_natCast.2 (Nat.pow_dvd_pow 2 (by omega))
  rw [e2, IntKind.wrap_i64]
  have h1 : 0 ≤ z % 2 ^ n := Int.emod_nonneg _ (by rw [pow_cast]; omega)
  have h2 : z % 2 ^ n < 2 ^ n := Int.emod_lt_of_pos _ (by rw [pow_cast]; omega)
  have h3 : (2 : Int) ^ n ≤ 1024 := by rw [pow_cast]; omega
  omega
end Go.Proofs.YtdlddkgmjpmenaaGreatDoor
/-
  The language: operations on numbers and the widths of numbers, walked (printed by gen_va3.py).
-/
namespace Go.Proofs.YtdlddkgmjpmenaaGreatDoor
open Go.RowKit
set_option linter.unusedVariables false
set_option linter.unusedSimpArgs false

theorem tmod_fix (a m : Int) (hm : 0 < m) : (a.tmod m + m) % m = a % m ∧ 0 ≤ a.tmod m + m ∧ a.tmod m + m < 2 * m := by
  have h1 := Int.tmod_add_mul_tdiv a m
  have h2 : -m < a.tmod m ∧ a.tmod m < m := ⟨by have := Int.lt_tmod_of_pos a hm; omega, Int.tmod_lt_of_pos a hm⟩
  refine ⟨?_, by omega, by omega⟩
  have h3 : a % m = (a.tmod m + m * (a.tdiv m)) % m := by rw [h1]
  rw [h3, Int.add_mul_emod_self_left, Int.add_emod_right]
theorem btMod_any (a m : Int) (w : World) (hm : 0 < m) (hm2 : m ≤ 4000000000) : Calls Tryz.prog 100 #[.int .i64 a, .int .i64 m] w fun e w' => e = .returned (.int .i64 (a % m)) ∧ w = w' := by
  obtain ⟨h1, h2, h3⟩ := tmod_fix a m hm
  have H1 := Lib.hid h1
  have hne : m ≠ 0 := by omega
  clear h1
  rcases Int.lt_or_le a 0 with ha | ha
  · go_enter Tryz.func100, Tryz.ntmps100
    go_wp2_with fail
    go_ret
    exact ⟨ret_int H1.out, rfl⟩
  · have e1 : a % m + m < 2 * m := by have := Int.emod_lt_of_pos a hm; omega
    have e2 : 0 ≤ a % m := Int.emod_nonneg a hne
    go_enter Tryz.func100, Tryz.ntmps100
    go_wp2_with fail
    go_ret
    exact ⟨ret_int (by simp), rfl⟩
theorem bit_any (b : Bool) (w : World) : Calls Tryz.prog 99 #[.bool b] w fun e w' => e = .returned (.int .i64 (if b = true then 1 else 0)) ∧ w = w' := by
  cases b
  · go_enter Tryz.func99, Tryz.ntmps99
    go_wp2_with fail
    go_ret
    exact ⟨rfl, rfl⟩
  · go_enter Tryz.func99, Tryz.ntmps99
    go_wp2_with fail
    go_ret
    exact ⟨rfl, rfl⟩
theorem wrap_pow10 (k : Nat) (hk : k ≤ 10) : wrap64 (2 ^ k) = 2 ^ k := by
  have : k = 0 ∨ k = 1 ∨ k = 2 ∨ k = 3 ∨ k = 4 ∨ k = 5 ∨ k = 6 ∨ k = 7 ∨ k = 8 ∨ k = 9 ∨ k = 10 := by omega
  rcases this with rfl | rfl | rfl | rfl | rfl | rfl | rfl | rfl | rfl | rfl | rfl <;> simp [wrap64]
theorem pow_le10 (k : Nat) (hk : k ≤ 10) : (2 : Int) ^ k ≤ 1024 := by
  have := Nat.pow_le_pow_right (show 0 < 2 by decide) hk
  rw [pow_cast]
  have h2 : 2 ^ 10 = 1024 := by decide
  omega
theorem fit_no {ws ns : List Int} {n k : Nat} {w v : Int} (hw : ws[k]? = some w) (hv : ns[k]? = some v) (h : inB v 0 (2 ^ w.toNat - 1) = false) : fitB ws ns = false := by
  cases hf : fitB ws ns
  · rfl
  · have := (fitB_at hf).2 k w v hw hv
    rw [inB_no] at h
    exact (h this).elim
theorem fit_yes {ws ns : List Int} {n : Nat} (hw : ws.length = n) (hv : ns.length = n) (h : ∀ (j : Nat) (w v : Int), j < n → ws[j]? = some w → ns[j]? = some v → inB v 0 (2 ^ w.toNat - 1) = true) : fitB ws ns = true := by
  unfold fitB
  rw [Bool.and_eq_true, List.all_eq_true]
  refine ⟨by simp [hw, hv], fun p hp => ?_⟩
  obtain ⟨j, hj⟩ := List.getElem?_of_mem hp
  rw [List.getElem?_zip_eq_some] at hj
  exact h j p.1 p.2 (by rw [← hw]; exact (List.getElem?_eq_some_iff.1 hj.1).1) hj.1 hj.2
set_option maxHeartbeats 4000000 in
set_option maxRecDepth 20000 in
theorem fitWidths_any (w : World) (B C : Nat) (ao bo : Option Addr) (n m c d : Nat) (xs ws : List Int) (ha : Ints w B ao n xs) (hb : Ints w C bo m ws) (hz : okW ws) :
    Calls Tryz.prog 68 #[.slice ao n c, .slice bo m d] w fun e w' => e = .returned (.bool (fitB ws xs)) ∧ w = w' := by
  have hn := ha.le
  have hm := hb.le
  have HA := Lib.hid ha.1
  have HB := Lib.hid hb.1
  have HZ := Lib.hid hz
  clear hz
  by_cases hnm : n = m
  rotate_left
  · have HF : Hid (fitB ws xs = false) := by show _ = _; unfold fitB; rw [HA.out, HB.out, show decide (m = n) = false from by simp; omega]; rfl
    have hb1 : ((n : Int) != m) = true := by simp; omega
    have hb2 : ((m : Int) != n) = true := by simp; omega
    go_enter Tryz.func68, Tryz.ntmps68
    go_wp2_with fail
    go_ret
    exact ⟨ret_bool HF.out.symm, rfl⟩
  subst hnm
  go_enter Tryz.func68, Tryz.ntmps68
  go_wp2_with fail
  go_loop [14] (fun i => ∃ k : Nat, k ≤ n ∧ i = .int .i64 k ∧ Hid (∀ (j : Nat) (y v : Int), j < k → ws[j]? = some y → xs[j]? = some v → inB v 0 (2 ^ y.toNat - 1) = true)) (fun i => n - (intOf i).toNat)
  case atStart => exact ⟨0, Nat.zero_le _, rfl, by intro j y v hj; omega⟩
  case round =>
    obtain ⟨k, hk, rfl, hlow⟩ := hrel
    by_cases hlt : k < n
    · obtain ⟨b1, o1, v, rfl, hb1, hv, hc1⟩ := ha.at hlt
      obtain ⟨b2, o2, y, rfl, hb2, hy, hc2⟩ := hb.at hlt
      have hyr := HZ.out k y hy
      obtain ⟨q, rfl⟩ := Int.eq_ofNat_of_zero_le (show 0 ≤ y by omega)
      have HV := Lib.hid hv
      have HY := Lib.hid hy
      have HPW := Lib.hid (wrap_pow10m q (by omega))
      have hq10 : (q : Int) ≤ 10 := by omega
      clear hv hy hyr
      cases hin : inB v 0 (2 ^ q - 1)
      · have HI := Lib.hid hin
        clear hin
        go_wp2_with (go_at_call 98; rw [HPW.out]; refine (within_any _ _ _ _).mono ?_; rintro e w' ⟨rfl, rfl⟩; rw [HI.out])
        go_ret
        exact ⟨ret_bool (fit_no (n := n) HY.out HV.out (by rw [Int.toNat_natCast]; exact HI.out)).symm, rfl⟩
      · have HI := Lib.hid hin
        clear hin
        go_wp2_with (go_at_call 98; rw [HPW.out]; refine (within_any _ _ _ _).mono ?_; rintro e w' ⟨rfl, rfl⟩; rw [HI.out])
        go_round
        case rel => exact ⟨k + 1, by omega, by go_num, by
          intro j y v hj hy2 hv2
          by_cases he : j = k
          · subst he
            rw [HY.out] at hy2
            rw [HV.out] at hv2
            simp at hy2 hv2
            rw [← hy2, ← hv2, Int.toNat_natCast]
            exact HI.out
          · exact hlow.out j y v (by omega) hy2 hv2⟩
        case measure => simp [intOf] <;> omega
    · obtain rfl : k = n := by omega
      go_wp2_with fail
      go_ret
      exact ⟨ret_bool (fit_yes HB.out HA.out hlow.out).symm, rfl⟩
set_option maxHeartbeats 4000000 in
set_option maxRecDepth 20000 in
theorem laFit_any (w : World) (B C : Nat) (ao bo : Option Addr) (n m c d : Nat) (xs ws : List Int) (ha : Ints w B ao n xs) (hb : Ints w C bo m ws) (hz : okW ws) :
    Calls Tryz.prog 65 #[.slice bo m d, .slice ao n c] w fun e w' => e = .returned (.bool (fitB ws xs)) ∧ w = w' := by
  have hn := ha.le
  have hm := hb.le
  have HA := Lib.hid ha.1
  have HB := Lib.hid hb.1
  have HZ := Lib.hid hz
  clear hz
  by_cases hnm : n = m
  rotate_left
  · have HF : Hid (fitB ws xs = false) := by show _ = _; unfold fitB; rw [HA.out, HB.out, show decide (m = n) = false from by simp; omega]; rfl
    have hb1 : ((n : Int) != m) = true := by simp; omega
    have hb2 : ((m : Int) != n) = true := by simp; omega
    go_enter Tryz.func65, Tryz.ntmps65
    go_wp2_with fail
    go_ret
    exact ⟨ret_bool HF.out.symm, rfl⟩
  subst hnm
  go_enter Tryz.func65, Tryz.ntmps65
  go_wp2_with fail
  go_loop [14] (fun i => ∃ k : Nat, k ≤ n ∧ i = .int .i64 k ∧ Hid (∀ (j : Nat) (y v : Int), j < k → ws[j]? = some y → xs[j]? = some v → inB v 0 (2 ^ y.toNat - 1) = true)) (fun i => n - (intOf i).toNat)
  case atStart => exact ⟨0, Nat.zero_le _, rfl, by intro j y v hj; omega⟩
  case round =>
    obtain ⟨k, hk, rfl, hlow⟩ := hrel
    by_cases hlt : k < n
    · obtain ⟨b1, o1, v, rfl, hb1, hv, hc1⟩ := ha.at hlt
      obtain ⟨b2, o2, y, rfl, hb2, hy, hc2⟩ := hb.at hlt
      have hyr := HZ.out k y hy
      obtain ⟨q, rfl⟩ := Int.eq_ofNat_of_zero_le (show 0 ≤ y by omega)
      have HV := Lib.hid hv
      have HY := Lib.hid hy
      have HPW := Lib.hid (wrap_pow10m q (by omega))
      have hq10 : (q : Int) ≤ 10 := by omega
      clear hv hy hyr
      cases hin : inB v 0 (2 ^ q - 1)
      · have HI := Lib.hid hin
        clear hin
        go_wp2_with (go_at_call 95; rw [HPW.out]; refine (l1In_any _ _ _ _).mono ?_; rintro e w' ⟨rfl, rfl⟩; rw [HI.out])
        go_ret
        exact ⟨ret_bool (fit_no (n := n) HY.out HV.out (by rw [Int.toNat_natCast]; exact HI.out)).symm, rfl⟩
      · have HI := Lib.hid hin
        clear hin
        go_wp2_with (go_at_call 95; rw [HPW.out]; refine (l1In_any _ _ _ _).mono ?_; rintro e w' ⟨rfl, rfl⟩; rw [HI.out])
        go_round
        case rel => exact ⟨k + 1, by omega, by go_num, by
          intro j y v hj hy2 hv2
          by_cases he : j = k
          · subst he
            rw [HY.out] at hy2
            rw [HV.out] at hv2
            simp at hy2 hv2
            rw [← hy2, ← hv2, Int.toNat_natCast]
            exact HI.out
          · exact hlow.out j y v (by omega) hy2 hv2⟩
        case measure => simp [intOf] <;> omega
    · obtain rfl : k = n := by omega
      go_wp2_with fail
      go_ret
      exact ⟨ret_bool (fit_yes HB.out HA.out hlow.out).symm, rfl⟩
set_option maxHeartbeats 8000000 in
set_option maxRecDepth 100000 in
theorem operate_any (w : World) (op : ByteArray) (n x y : Nat) (hop : opsL.contains op = true) (hn : n ≤ 10) (hx : x < 2 ^ n) (hy : y < 2 ^ n) :
    Calls Tryz.prog 69 #[.string op, .int .i64 n, .int .i64 x, .int .i64 y] w fun e w' => e = .returned (.int .i64 (opF op n x y)) ∧ w = w' := by
  have h1024 : 2 ^ n ≤ 1024 := by have := pow_le10 n hn; rw [pow_cast] at this; omega
  have hx4 : x < 1024 := by omega
  have hy4 : y < 1024 := by omega
  have hni : (n : Int) ≤ 10 := by omega
  have HPW := Lib.hid (wrap_pow10m n hn)
  have HPV := Lib.hid (wrap_pow10 n hn)
  have HPL := Lib.hid (pow_le10 n hn)
  have HPP := Lib.hid (show (0 : Int) < 2 ^ n by rw [pow_cast]; have := Nat.two_pow_pos n; omega)
  have HAM := Lib.hid (fun z => and_mask z n hn)
  have HAN := Lib.hid (i64_and_nat x y (by omega) (by omega))
  have HOR := Lib.hid (i64_or_nat x y (by omega) (by omega))
  have HXO := Lib.hid (i64_xor_nat x y (by omega) (by omega))
  clear hx hy h1024
  rcases ops_cases hop with rfl | (rfl | rfl) | (rfl | rfl | rfl | rfl | rfl)
  · have HF : Hid (opF (opB 42) n x y = (x : Int) * y) := by show _ = _; unfold opF; simp [opB_beq]
    clear hop
    unfold opB at HF ⊢
    obtain ⟨r, hr⟩ : ∃ r, r = opF ⟨#[42]⟩ n x y := ⟨_, rfl⟩
    rw [← hr] at HF ⊢
    clear hr
    have hml : (x : Int) * y = ((x * y : Nat) : Int) := by simp
    have hmm := Nat.mul_le_mul (Nat.le_of_lt hx4) (Nat.le_of_lt hy4)
    have hm : (x : Int) * y ≤ 1048576 := by rw [hml]; exact Int.ofNat_le.2 hmm
    have hm0 : 0 ≤ (x : Int) * y := by rw [hml]; exact Int.natCast_nonneg _
    clear hml hmm
    go_enter Tryz.func69, Tryz.ntmps69
    go_wp2_with fail
    go_ret
    exact ⟨ret_int HF.out.symm, rfl⟩
  · have HF : Hid (opF (opB 60) n x y = if (x : Int) < y then 1 else 0) := by show _ = _; unfold opF; simp [opB_beq]
    clear hop
    unfold opB at HF ⊢
    obtain ⟨r, hr⟩ : ∃ r, r = opF ⟨#[60]⟩ n x y := ⟨_, rfl⟩
    rw [← hr] at HF ⊢
    clear hr
    by_cases hc : x < y
    · have hci : (x : Int) < y := by omega
      have hcd : decide ((x : Int) < y) = true := by simp; omega
      go_enter Tryz.func69, Tryz.ntmps69
      go_wp2_with (go_at_call 99; refine (bit_any _ _).mono ?_; rintro e w' ⟨rfl, rfl⟩)
      go_ret
      exact ⟨ret_int (by rw [HF.out]; split <;> first | rfl | (exfalso; omega)), rfl⟩
    · have hci : ¬ (x : Int) < y := by omega
      have hcd : decide ((x : Int) < y) = false := by simp; omega
      go_enter Tryz.func69, Tryz.ntmps69
      go_wp2_with (go_at_call 99; refine (bit_any _ _).mono ?_; rintro e w' ⟨rfl, rfl⟩)
      go_ret
      exact ⟨ret_int (by rw [HF.out]; split <;> first | rfl | (exfalso; omega)), rfl⟩
  · have HF : Hid (opF (opB 61) n x y = if (x : Int) = y then 1 else 0) := by show _ = _; unfold opF; simp [opB_beq]
    clear hop
    unfold opB at HF ⊢
    obtain ⟨r, hr⟩ : ∃ r, r = opF ⟨#[61]⟩ n x y := ⟨_, rfl⟩
    rw [← hr] at HF ⊢
    clear hr
    by_cases hc : x = y
    · have hci : ((x : Int) == y) = true := by simp [hc]
      have HC := Lib.hid hc
      clear hc
      go_enter Tryz.func69, Tryz.ntmps69
      go_wp2_with (go_at_call 99; refine (bit_any _ _).mono ?_; rintro e w' ⟨rfl, rfl⟩)
      go_ret
      exact ⟨ret_int (by rw [HF.out]; have := HC.out; split <;> first | rfl | (exfalso; omega)), rfl⟩
    · have hci : ((x : Int) == y) = false := by simp; omega
      have HC := Lib.hid hc
      clear hc
      go_enter Tryz.func69, Tryz.ntmps69
      go_wp2_with (go_at_call 99; refine (bit_any _ _).mono ?_; rintro e w' ⟨rfl, rfl⟩)
      go_ret
      exact ⟨ret_int (by rw [HF.out]; have := HC.out; split <;> first | rfl | (exfalso; omega)), rfl⟩
  · have HF : Hid (opF (opB 43) n x y = ((x : Int) + y) % 2 ^ n) := by show _ = _; unfold opF; simp [opB_beq]
    clear hop
    unfold opB at HF ⊢
    obtain ⟨r, hr⟩ : ∃ r, r = opF ⟨#[43]⟩ n x y := ⟨_, rfl⟩
    rw [← hr] at HF ⊢
    clear hr
    have HB := Lib.hid (HAM.out ((x : Int) + y))
    go_enter Tryz.func69, Tryz.ntmps69
    go_wp2_with fail
    go_ret
    exact ⟨ret_int (by rw [HF.out, HPW.out, HB.out]), rfl⟩
  · have HF : Hid (opF (opB 45) n x y = ((x : Int) - y) % 2 ^ n) := by show _ = _; unfold opF; simp [opB_beq]
    clear hop
    unfold opB at HF ⊢
    obtain ⟨r, hr⟩ : ∃ r, r = opF ⟨#[45]⟩ n x y := ⟨_, rfl⟩
    rw [← hr] at HF ⊢
    clear hr
    have HB := Lib.hid (HAM.out ((x : Int) - y))
    go_enter Tryz.func69, Tryz.ntmps69
    go_wp2_with fail
    go_ret
    exact ⟨ret_int (by rw [HF.out, HPW.out, HB.out]), rfl⟩
  · have HF : Hid (opF (opB 38) n x y = ((x &&& y : Nat) : Int)) := by show _ = _; unfold opF; simp [opB_beq]
    clear hop
    unfold opB at HF ⊢
    obtain ⟨r, hr⟩ : ∃ r, r = opF ⟨#[38]⟩ n x y := ⟨_, rfl⟩
    rw [← hr] at HF ⊢
    clear hr
    go_enter Tryz.func69, Tryz.ntmps69
    go_wp2_with fail
    go_ret
    exact ⟨ret_int (by rw [HF.out, HAN.out]), rfl⟩
  · have HF : Hid (opF (opB 124) n x y = ((x ||| y : Nat) : Int)) := by show _ = _; unfold opF; simp [opB_beq]
    clear hop
    unfold opB at HF ⊢
    obtain ⟨r, hr⟩ : ∃ r, r = opF ⟨#[124]⟩ n x y := ⟨_, rfl⟩
    rw [← hr] at HF ⊢
    clear hr
    go_enter Tryz.func69, Tryz.ntmps69
    go_wp2_with fail
    go_ret
    exact ⟨ret_int (by rw [HF.out, HOR.out]), rfl⟩
  · have HF : Hid (opF (opB 94) n x y = ((x ^^^ y : Nat) : Int)) := by show _ = _; unfold opF; simp [opB_beq]
    clear hop
    unfold opB at HF ⊢
    obtain ⟨r, hr⟩ : ∃ r, r = opF ⟨#[94]⟩ n x y := ⟨_, rfl⟩
    rw [← hr] at HF ⊢
    clear hr
    go_enter Tryz.func69, Tryz.ntmps69
    go_wp2_with fail
    go_ret
    exact ⟨ret_int (by rw [HF.out, HXO.out]), rfl⟩
set_option maxHeartbeats 8000000 in
set_option maxRecDepth 100000 in
theorem laApply_any (w : World) (op : ByteArray) (n x y : Nat) (hop : opsL.contains op = true) (hn : n ≤ 10) (hx : x < 2 ^ n) (hy : y < 2 ^ n) :
    Calls Tryz.prog 70 #[.string op, .int .i64 n, .int .i64 x, .int .i64 y] w fun e w' => e = .returned (.int .i64 (opF op n x y)) ∧ w = w' := by
  have h1024 : 2 ^ n ≤ 1024 := by have := pow_le10 n hn; rw [pow_cast] at this; omega
  have hx4 : x < 1024 := by omega
  have hy4 : y < 1024 := by omega
  have hni : (n : Int) ≤ 10 := by omega
  have HPW := Lib.hid (wrap_pow10m n hn)
  have HPV := Lib.hid (wrap_pow10 n hn)
  have HPL := Lib.hid (pow_le10 n hn)
  have HPP := Lib.hid (show (0 : Int) < 2 ^ n by rw [pow_cast]; have := Nat.two_pow_pos n; omega)
  have HAM := Lib.hid (fun z => and_mask z n hn)
  have HAN := Lib.hid (i64_and_nat x y (by omega) (by omega))
  have HOR := Lib.hid (i64_or_nat x y (by omega) (by omega))
  have HXO := Lib.hid (i64_xor_nat x y (by omega) (by omega))
  clear hx hy h1024
  rcases ops_cases hop with rfl | (rfl | rfl) | (rfl | rfl | rfl | rfl | rfl)
  · have HF : Hid (opF (opB 42) n x y = (x : Int) * y) := by show _ = _; unfold opF; simp [opB_beq]
    clear hop
    unfold opB at HF ⊢
    obtain ⟨r, hr⟩ : ∃ r, r = opF ⟨#[42]⟩ n x y := ⟨_, rfl⟩
    rw [← hr] at HF ⊢
    clear hr
    have hml : (x : Int) * y = ((x * y : Nat) : Int) := by simp
    have hmm := Nat.mul_le_mul (Nat.le_of_lt hx4) (Nat.le_of_lt hy4)
    have hm : (x : Int) * y ≤ 1048576 := by rw [hml]; exact Int.ofNat_le.2 hmm
    have hm0 : 0 ≤ (x : Int) * y := by rw [hml]; exact Int.natCast_nonneg _
    clear hml hmm
    go_enter Tryz.func70, Tryz.ntmps70
    go_wp2_with fail
    go_ret
    exact ⟨ret_int HF.out.symm, rfl⟩
  · have HF : Hid (opF (opB 60) n x y = if (x : Int) < y then 1 else 0) := by show _ = _; unfold opF; simp [opB_beq]
    clear hop
    unfold opB at HF ⊢
    obtain ⟨r, hr⟩ : ∃ r, r = opF ⟨#[60]⟩ n x y := ⟨_, rfl⟩
    rw [← hr] at HF ⊢
    clear hr
    by_cases hc : x < y
    · have hci : (x : Int) < y := by omega
      have hcd : decide ((x : Int) < y) = true := by simp; omega
      go_enter Tryz.func70, Tryz.ntmps70
      go_wp2_with fail
      go_ret
      exact ⟨ret_int (by rw [HF.out]; split <;> first | rfl | (exfalso; omega)), rfl⟩
    · have hci : ¬ (x : Int) < y := by omega
      have hcd : decide ((x : Int) < y) = false := by simp; omega
      go_enter Tryz.func70, Tryz.ntmps70
      go_wp2_with fail
      go_ret
      exact ⟨ret_int (by rw [HF.out]; split <;> first | rfl | (exfalso; omega)), rfl⟩
  · have HF : Hid (opF (opB 61) n x y = if (x : Int) = y then 1 else 0) := by show _ = _; unfold opF; simp [opB_beq]
    clear hop
    unfold opB at HF ⊢
    obtain ⟨r, hr⟩ : ∃ r, r = opF ⟨#[61]⟩ n x y := ⟨_, rfl⟩
    rw [← hr] at HF ⊢
    clear hr
    by_cases hc : x = y
    · have hci : ((x : Int) == y) = true := by simp [hc]
      have HC := Lib.hid hc
      clear hc
      go_enter Tryz.func70, Tryz.ntmps70
      go_wp2_with fail
      go_ret
      exact ⟨ret_int (by rw [HF.out]; have := HC.out; split <;> first | rfl | (exfalso; omega)), rfl⟩
    · have hci : ((x : Int) == y) = false := by simp; omega
      have HC := Lib.hid hc
      clear hc
      go_enter Tryz.func70, Tryz.ntmps70
      go_wp2_with fail
      go_ret
      exact ⟨ret_int (by rw [HF.out]; have := HC.out; split <;> first | rfl | (exfalso; omega)), rfl⟩
  · have HF : Hid (opF (opB 43) n x y = ((x : Int) + y) % 2 ^ n) := by show _ = _; unfold opF; simp [opB_beq]
    clear hop
    unfold opB at HF ⊢
    obtain ⟨r, hr⟩ : ∃ r, r = opF ⟨#[43]⟩ n x y := ⟨_, rfl⟩
    rw [← hr] at HF ⊢
    clear hr
    have hz : ¬ wrap64 (2 ^ n) = 0 := by rw [HPV.out]; have := HPP.out; omega
    have HB : Hid (Int.tmod ((x : Int) + y) (2 ^ n) = ((x : Int) + y) % 2 ^ n) := Int.tmod_eq_emod_of_nonneg (by omega)
    go_enter Tryz.func70, Tryz.ntmps70
    go_wp2_with fail
    go_ret
    exact ⟨ret_int (by rw [HF.out, HPV.out]), rfl⟩
  · have HF : Hid (opF (opB 45) n x y = ((x : Int) - y) % 2 ^ n) := by show _ = _; unfold opF; simp [opB_beq]
    clear hop
    unfold opB at HF ⊢
    obtain ⟨r, hr⟩ : ∃ r, r = opF ⟨#[45]⟩ n x y := ⟨_, rfl⟩
    rw [← hr] at HF ⊢
    clear hr
    go_enter Tryz.func70, Tryz.ntmps70
    go_wp2_with (go_at_call 100; rw [HPV.out]; refine (btMod_any _ _ _ HPP.out (by have := HPL.out; omega)).mono ?_; rintro e w' ⟨rfl, rfl⟩; rw [← HF.out])
    go_ret
    exact ⟨rfl, rfl⟩
  · have HF : Hid (opF (opB 38) n x y = ((x &&& y : Nat) : Int)) := by show _ = _; unfold opF; simp [opB_beq]
    clear hop
    unfold opB at HF ⊢
    obtain ⟨r, hr⟩ : ∃ r, r = opF ⟨#[38]⟩ n x y := ⟨_, rfl⟩
    rw [← hr] at HF ⊢
    clear hr
    go_enter Tryz.func70, Tryz.ntmps70
    go_wp2_with fail
    go_ret
    exact ⟨ret_int (by rw [HF.out, HAN.out]), rfl⟩
  · have HF : Hid (opF (opB 124) n x y = ((x ||| y : Nat) : Int)) := by show _ = _; unfold opF; simp [opB_beq]
    clear hop
    unfold opB at HF ⊢
    obtain ⟨r, hr⟩ : ∃ r, r = opF ⟨#[124]⟩ n x y := ⟨_, rfl⟩
    rw [← hr] at HF ⊢
    clear hr
    go_enter Tryz.func70, Tryz.ntmps70
    go_wp2_with fail
    go_ret
    exact ⟨ret_int (by rw [HF.out, HOR.out]), rfl⟩
  · have HF : Hid (opF (opB 94) n x y = ((x ^^^ y : Nat) : Int)) := by show _ = _; unfold opF; simp [opB_beq]
    clear hop
    unfold opB at HF ⊢
    obtain ⟨r, hr⟩ : ∃ r, r = opF ⟨#[94]⟩ n x y := ⟨_, rfl⟩
    rw [← hr] at HF ⊢
    clear hr
    go_enter Tryz.func70, Tryz.ntmps70
    go_wp2_with fail
    go_ret
    exact ⟨ret_int (by rw [HF.out, HXO.out]), rfl⟩
end Go.Proofs.YtdlddkgmjpmenaaGreatDoor
/-
  The language: whether numbers are a program's inputs, both ways.
-/
namespace Go.Proofs.YtdlddkgmjpmenaaGreatDoor
open Go.RowKit
set_option linter.unusedVariables false
set_option linter.unusedSimpArgs false

theorem inputs_okW {ls : List Ln} (hg : laGoodF ls = true) (p : Int) : okW (inputsL ls p) := inputs_ok ((widths_good ls).2 hg).2.2.1 p
theorem inWF_good {ls : List Ln} (hg : laGoodF ls = true) {p : Int} (hp : inB p 0 1 = true) : inWF ls p = (inputsL ls p, true) := by unfold inWF; rw [if_pos ⟨hg, hp⟩]
theorem inWF_bad {ls : List Ln} (hg : laGoodF ls = false) (p : Int) : inWF ls p = ([], false) := by unfold inWF; rw [if_neg (by rw [hg]; simp)]
set_option maxRecDepth 20000 in
set_option maxHeartbeats 4000000 in
theorem areValues_any (w : World) (ao aa ba : Option Addr) (n c na ca nb cb : Nat) (ls : List Ln) (a b : List Int) (h : Lns w w.heap.size ao n ls) (hs : okS ls) (hnc : n ≤ c) (ha : Ints w w.heap.size aa na a) (hb : Ints w w.heap.size ba nb b) :
    Calls Tryz.prog 37 #[.slice ao n c, .slice aa na ca, .slice ba nb cb] w (RetB (askedB ls a b) w) := by
  go_enter Tryz.func37, Tryz.ntmps37
  go_wp2_with fail
  refine (impl_InputWidths_any _ _ _ _ _ 0 h hs hnc).mono ?_
  rintro e w1 ⟨a1, n1, c1, rfl, ho1, hb1⟩
  cases hg : laGoodF ls
  · have HF : Hid (askedB ls a b = false) := by show _ = _; unfold askedB; rw [hg]; rfl
    rw [inWF_bad hg 0]
    have HG := Lib.hid hg
    clear hg ho1
    go_wp2_with fail
    refine (impl_InputWidths_any _ _ _ _ _ 1 ((h.below hb1 (Nat.le_refl _)).up hb1.size) hs hnc).mono ?_
    rintro e w2 ⟨a2, n2, c2, rfl, ho2, hb2⟩
    rw [inWF_bad HG.out 1]
    clear ho2
    go_wp2_with fail
    go_ret
    exact ⟨ret_bool HF.out.symm, hb1.trans (hb2.mono hb1.size)⟩
  rw [inWF_good hg rfl] at ho1 ⊢
  have HG := Lib.hid hg
  have HO1 := Lib.hid ho1
  clear hg ho1
  go_wp2_with fail
  refine (impl_InputWidths_any _ _ _ _ _ 1 ((h.below hb1 (Nat.le_refl _)).up hb1.size) hs hnc).mono ?_
  rintro e w2 ⟨a2, n2, c2, rfl, ho2, hb2⟩
  rw [inWF_good HG.out rfl] at ho2 ⊢
  have hbw2 := hb1.trans (hb2.mono hb1.size)
  have HI1 := Lib.hid ((HO1.out.below hb2 (Nat.le_refl _)).ints)
  have HI2 := Lib.hid ho2.ints
  have HA := Lib.hid (ha.below hbw2 (Nat.le_refl _))
  have HB := Lib.hid (hb.below hbw2 (Nat.le_refl _))
  clear ho2
  cases hf0 : fitB (inputsL ls 0) a
  · have HF : Hid (askedB ls a b = false) := by show _ = _; unfold askedB; rw [HG.out, hf0]; rfl
    have HF0 := Lib.hid hf0
    clear hf0
    go_wp2_with (go_at_call 68; refine (fitWidths_any _ _ _ _ _ _ _ _ _ _ _ HA.out HI1.out (inputs_okW HG.out 0)).mono ?_; rintro e w' ⟨rfl, rfl⟩; rw [HF0.out])
    go_ret
    exact ⟨ret_bool HF.out.symm, hbw2⟩
  · have HF0 := Lib.hid hf0
    clear hf0
    have HF : Hid (askedB ls a b = fitB (inputsL ls 1) b) := by show _ = _; unfold askedB; rw [HG.out, HF0.out]; rfl
    go_wp2_with fail
    refine (fitWidths_any _ _ _ _ _ _ _ _ _ _ _ HA.out HI1.out (inputs_okW HG.out 0)).mono ?_
    rintro e w' ⟨rfl, rfl⟩
    rw [HF0.out]
    go_wp2_with fail
    refine (fitWidths_any _ _ _ _ _ _ _ _ _ _ _ HB.out HI2.out (inputs_okW HG.out 1)).mono ?_
    rintro e w' ⟨rfl, rfl⟩
    rw [← HF.out]
    go_wp2_with fail
    go_ret
    exact ⟨rfl, hbw2⟩
set_option maxRecDepth 20000 in
set_option maxHeartbeats 4000000 in
theorem laAsked_any (w : World) (ao aa ba : Option Addr) (n c na ca nb cb : Nat) (ls : List Ln) (a b : List Int) (h : Lns w w.heap.size ao n ls) (hs : okS ls) (hn20 : n ≤ 1048576) (hnc : n ≤ c) (ha : Ints w w.heap.size aa na a) (hb : Ints w w.heap.size ba nb b) :
    Calls Tryz.prog 35 #[.slice ao n c, .slice aa na ca, .slice ba nb cb] w (RetB (askedB ls a b) w) := by
  go_enter Tryz.func35, Tryz.ntmps35
  go_wp2_with fail
  refine (laGood_any _ _ _ _ _ h hs hnc).mono ?_
  rintro e w1 ⟨rfl, hb1⟩
  cases hg : laGoodF ls
  · have HF : Hid (askedB ls a b = false) := by show _ = _; unfold askedB; rw [hg]; rfl
    clear hg
    go_wp2_with fail
    go_ret
    exact ⟨ret_bool HF.out.symm, hb1⟩
  have HG := Lib.hid hg
  clear hg
  go_wp2_with fail
  refine (laInputs_any _ w.heap.size _ _ _ _ 0 (h.below hb1 (Nat.le_refl _)) hb1.size hn20).mono ?_
  rintro e w2 ⟨a2, n2, c2, rfl, ho2, hb2⟩
  have hbw2 := hb1.trans (hb2.mono hb1.size)
  have HI1 := Lib.hid ho2.ints
  have HA := Lib.hid (ha.below hbw2 (Nat.le_refl _))
  clear ho2
  go_wp2_with fail
  refine (laFit_any _ _ _ _ _ _ _ _ _ _ _ HA.out HI1.out (inputs_okW HG.out 0)).mono ?_
  rintro e w' ⟨rfl, rfl⟩
  cases hf0 : fitB (inputsL ls 0) a
  · have HF : Hid (askedB ls a b = false) := by show _ = _; unfold askedB; rw [HG.out, hf0]; rfl
    clear hf0
    go_wp2_with fail
    go_ret
    exact ⟨ret_bool HF.out.symm, hbw2⟩
  have HF : Hid (askedB ls a b = fitB (inputsL ls 1) b) := by show _ = _; unfold askedB; rw [HG.out, hf0]; rfl
  clear hf0
  go_wp2_with fail
  refine (laInputs_any _ w.heap.size _ _ _ _ 1 (h.below hbw2 (Nat.le_refl _)) hbw2.size hn20).mono ?_
  rintro e w3 ⟨a3, n3, c3, rfl, ho3, hb3⟩
  have hbw3 := hbw2.trans (hb3.mono hbw2.size)
  have HI2 := Lib.hid ho3.ints
  have HB := Lib.hid (hb.below hbw3 (Nat.le_refl _))
  clear ho3
  go_wp2_with fail
  refine (laFit_any _ _ _ _ _ _ _ _ _ _ _ HB.out HI2.out (inputs_okW HG.out 1)).mono ?_
  rintro e w' ⟨rfl, rfl⟩
  rw [← HF.out]
  go_wp2_with fail
  go_ret
  exact ⟨rfl, hbw3⟩
end Go.Proofs.YtdlddkgmjpmenaaGreatDoor
/-
  The language: the value of a line, kind by kind: plain law.
-/
namespace Go.Proofs.YtdlddkgmjpmenaaGreatDoor
open Go.RowKit
set_option linter.unusedVariables false
set_option linter.unusedSimpArgs false

def pvL (ls : List Ln) (vs : List Int) (x : Ln) : List Int := x.parts.map fun p => atN vs (findF ls p)
section
variable {ls : List Ln} {a b : List Int} {k : Nat} {x : Ln} {vs : List Int} {t0 t1 : Nat} (hq : askedB ls a b = true) (h : ls[k]? = some x) (ho : OkV ls a b k (vs, t0, t1))
include hq h ho
theorem kind_any : x.kind = 1 ∨ x.kind = 2 ∨ x.kind = 3 ∨ x.kind = 4 ∨ x.kind = 5 ∨ x.kind = 6 := by
  obtain ⟨hg, _, _⟩ := asked_good hq
  have _u := ho
  have g4 := (good_line hg h).2.2.2
  unfold kindW at g4
  by_cases k1 : x.kind = 1
  · omega
  by_cases k2 : x.kind = 2
  · omega
  by_cases k3 : x.kind = 3
  · omega
  by_cases k4 : x.kind = 4 ∨ x.kind = 6
  · omega
  by_cases k5 : x.kind = 5
  · omega
  · rw [if_neg k1, if_neg k2, if_neg k3, if_neg k4, if_neg k5] at g4; omega
theorem kind1_val (k1 : x.kind = 1) : (x.party = 0 ∧ ∃ v, a[t0]? = some v ∧ lineVal ls (laWidths ls) a b x vs t0 t1 = v) ∨ (x.party = 1 ∧ ∃ v, b[t1]? = some v ∧ lineVal ls (laWidths ls) a b x vs t0 t1 = v) := by
  obtain ⟨hg, fa, fb⟩ := asked_good hq
  have hnz := (good_line hg h).2.2.2
  have hp : 0 ≤ x.party ∧ x.party ≤ 1 := by
    unfold kindW at hnz
    rw [if_pos k1] at hnz
    split at hnz
    · next g => simp only [Bool.and_eq_true, inB_iff] at g; exact g.1
    · omega
  have n0 := ho.n0
  have n1 := ho.n1
  simp only [] at n0 n1
  by_cases p1 : x.party = 1
  · right
    have hi := inputs_here h k1 p1
    have hf := fitB_at fb
    have hlt : t1 < b.length := by rw [n1, ← hf.1]; exact (List.getElem?_eq_some_iff.1 hi).1
    refine ⟨p1, b.getD t1 0, getD_some hlt, ?_⟩
    unfold lineVal
    simp only [k1, if_true, p1]
  · left
    have p0 : x.party = 0 := by omega
    have hi := inputs_here h k1 p0
    have hf := fitB_at fa
    have hlt : t0 < a.length := by rw [n0, ← hf.1]; exact (List.getElem?_eq_some_iff.1 hi).1
    refine ⟨p0, a.getD t0 0, getD_some hlt, ?_⟩
    unfold lineVal
    simp only [k1, if_true]
    rw [if_neg p1]
theorem kind2_val (k2 : x.kind = 2) : lineVal ls (laWidths ls) a b x vs t0 t1 = x.value := by
  have k1 : ¬ x.kind = 1 := by omega
  have _u := ho
  have _v := hq
  have _w := h
  unfold lineVal
  simp only []
  rw [if_neg k1, if_pos k2]
theorem kind3_val (k3 : x.kind = 3) : ∃ n u v : Nat, pvL ls vs x = [(u : Int), (v : Int)] ∧ wideL ls (laWidths ls) x = [(n : Int), (n : Int)] ∧ n ≤ 10 ∧ u < 2 ^ n ∧ v < 2 ^ n ∧ opsL.contains x.op = true ∧ lineVal ls (laWidths ls) a b x vs t0 t1 = opF x.op n u v := by
  obtain ⟨hg, _, _⟩ := asked_good hq
  obtain ⟨g1, g2, g3, g4⟩ := good_line hg h
  have hpf := fun p hp => part_fits (p := p) hg h ho hp
  have hop := good_op hg h k3
  have k1 : ¬ x.kind = 1 := by omega
  have k2 : ¬ x.kind = 2 := by omega
  unfold pvL
  unfold wideL at *
  rw [List.length_map, k3] at g1
  have hk : k < ls.length := (List.getElem?_eq_some_iff.1 h).1
  match hps : x.parts, g1 with
  | [p0, p1], _ =>
    have f0 := hpf p0 (by rw [hps]; simp)
    have f1 := hpf p1 (by rw [hps]; simp)
    rw [hps] at g4
    simp only [List.map_cons, List.map_nil] at g4 ⊢
    have e : kindW x [atN (laWidths ls) (findF ls p0), atN (laWidths ls) (findF ls p1)] = laTwo x.op (atN (laWidths ls) (findF ls p0)) (atN (laWidths ls) (findF ls p1)) := by
      unfold kindW; rw [if_neg k1, if_neg k2, if_pos k3]; rfl
    rw [e] at g4
    have ew : atN (laWidths ls) (findF ls p0) = atN (laWidths ls) (findF ls p1) := by
      by_cases he : atN (laWidths ls) (findF ls p0) = atN (laWidths ls) (findF ls p1)
      · exact he
      · exfalso
        have : laTwo x.op (atN (laWidths ls) (findF ls p0)) (atN (laWidths ls) (findF ls p1)) = 0 := by unfold laTwo; rw [if_pos (by simp [he])]
        omega
    obtain ⟨_, h0, h1⟩ := good_find hg h (p := p0) (by rw [hps]; simp)
    have hw := ((widths_good ls).2 hg).2.2.1 _ _ (atN_some (l := laWidths ls) h0 (by rw [laWidths_length]; omega))
    rw [← ew] at f1
    obtain ⟨n, hn⟩ := Int.eq_ofNat_of_zero_le (show 0 ≤ atN (laWidths ls) (findF ls p0) by omega)
    obtain ⟨u, hu⟩ := Int.eq_ofNat_of_zero_le f0.1
    obtain ⟨v, hv⟩ := Int.eq_ofNat_of_zero_le f1.1
    refine ⟨n, u, v, by rw [← hu, ← hv], by rw [← hn, ← ew], by omega, ?_, ?_, hop, ?_⟩
    · rw [hn, hu] at f0; exact (fits_nat (b := 0)).1 f0
    · rw [hn, hv] at f1; exact (fits_nat (b := 0)).1 f1
    · unfold lineVal wideL
      simp only [k1, if_false, k2, k3, if_true, hps, List.map_cons, List.map_nil]
      show opF x.op (atN (laWidths ls) (findF ls p0)) (atN vs (findF ls p0)) (atN vs (findF ls p1)) = _
      rw [hn]
      simp only [] at hu hv
      rw [hu, hv]
theorem kind4_val (k4 : x.kind = 4) : ∃ n u : Nat, pvL ls vs x = [(u : Int)] ∧ wideL ls (laWidths ls) x = [(n : Int)] ∧ n ≤ 10 ∧ u < 2 ^ n ∧ lineVal ls (laWidths ls) a b x vs t0 t1 = 2 ^ n - 1 - u := by
  obtain ⟨hg, _, _⟩ := asked_good hq
  obtain ⟨g1, g2, g3, g4⟩ := good_line hg h
  have hpf := fun p hp => part_fits (p := p) hg h ho hp
  have k1 : ¬ x.kind = 1 := by omega
  have k2 : ¬ x.kind = 2 := by omega
  have k3 : ¬ x.kind = 3 := by omega
  unfold pvL
  unfold wideL at *
  rw [List.length_map, k4] at g1
  have hk : k < ls.length := (List.getElem?_eq_some_iff.1 h).1
  match hps : x.parts, g1 with
  | [p0], _ =>
    have f0 := hpf p0 (by rw [hps]; simp)
    simp only [List.map_cons, List.map_nil]
    obtain ⟨_, h0, h1⟩ := good_find hg h (p := p0) (by rw [hps]; simp)
    have hw := ((widths_good ls).2 hg).2.2.1 _ _ (atN_some (l := laWidths ls) h0 (by rw [laWidths_length]; omega))
    obtain ⟨n, hn⟩ := Int.eq_ofNat_of_zero_le (show 0 ≤ atN (laWidths ls) (findF ls p0) by omega)
    obtain ⟨u, hu⟩ := Int.eq_ofNat_of_zero_le f0.1
    refine ⟨n, u, by rw [← hu], by rw [← hn], by omega, ?_, ?_⟩
    · rw [hn, hu] at f0; exact (fits_nat (b := 0)).1 f0
    · unfold lineVal wideL
      simp only [k1, if_false, k2, k3, k4, if_true, hps, List.map_cons, List.map_nil]
      show 2 ^ (atN (laWidths ls) (findF ls p0)).toNat - 1 - atN vs (findF ls p0) = _
      simp only [] at hu
      rw [hn, hu, Int.toNat_natCast]
theorem kind5_val (k5 : x.kind = 5) : ∃ u v w : Int, pvL ls vs x = [u, v, w] ∧ ((u = 0 ∧ lineVal ls (laWidths ls) a b x vs t0 t1 = w) ∨ (u = 1 ∧ lineVal ls (laWidths ls) a b x vs t0 t1 = v)) := by
  obtain ⟨hg, _, _⟩ := asked_good hq
  obtain ⟨g1, g2, g3, g4⟩ := good_line hg h
  have hpf := fun p hp => part_fits (p := p) hg h ho hp
  have k1 : ¬ x.kind = 1 := by omega
  have k2 : ¬ x.kind = 2 := by omega
  have k3 : ¬ x.kind = 3 := by omega
  have k4 : ¬ x.kind = 4 := by omega
  unfold pvL
  unfold wideL at *
  rw [List.length_map, k5] at g1
  match hps : x.parts, g1 with
  | [p0, p1, p2], _ =>
    have f0 := hpf p0 (by rw [hps]; simp)
    rw [hps] at g4
    simp only [List.map_cons, List.map_nil] at g4 ⊢
    unfold kindW at g4
    rw [if_neg k1, if_neg k2, if_neg k3, if_neg (by omega), if_pos k5] at g4
    split at g4
    · next g =>
      simp only [Bool.and_eq_true, beq_iff_eq] at g
      obtain ⟨ga, gb⟩ := g
      change atN (laWidths ls) (findF ls p0) = 1 at ga
      rw [ga] at f0
      unfold fits at f0
      simp only [] at f0
      have hu : atN vs (findF ls p0) = 0 ∨ atN vs (findF ls p0) = 1 := by
        have : (2 : Int) ^ (1 : Int).toNat = 2 := rfl
        omega
      have hl : lineVal ls (laWidths ls) a b x vs t0 t1 = ([atN vs (findF ls p0), atN vs (findF ls p1), atN vs (findF ls p2)] : List Int).getD (2 - atN vs (findF ls p0)).toNat 0 := by
        unfold lineVal
        simp only [k1, if_false, k2, k3, k4, k5, if_true, hps, List.map_cons, List.map_nil]
        rfl
      refine ⟨_, _, _, rfl, ?_⟩
      rcases hu with e | e
      · left; refine ⟨e, ?_⟩; rw [hl, e]; rfl
      · right; refine ⟨e, ?_⟩; rw [hl, e]; rfl
    · omega
theorem kind6_val (k6 : x.kind = 6) : ∃ u : Int, pvL ls vs x = [u] ∧ lineVal ls (laWidths ls) a b x vs t0 t1 = u := by
  have _u := ho
  obtain ⟨hg, _, _⟩ := asked_good hq
  obtain ⟨g1, g2, g3, g4⟩ := good_line hg h
  have k1 : ¬ x.kind = 1 := by omega
  have k2 : ¬ x.kind = 2 := by omega
  have k3 : ¬ x.kind = 3 := by omega
  have k4 : ¬ x.kind = 4 := by omega
  have k5 : ¬ x.kind = 5 := by omega
  unfold pvL
  unfold wideL at *
  rw [List.length_map, k6] at g1
  match hps : x.parts, g1 with
  | [p0], _ =>
    refine ⟨atN vs (findF ls p0), rfl, ?_⟩
    unfold lineVal
    simp only [k1, if_false, k2, k3, k4, k5, hps, List.map_cons, List.map_nil]
    rfl
end
end Go.Proofs.YtdlddkgmjpmenaaGreatDoor
