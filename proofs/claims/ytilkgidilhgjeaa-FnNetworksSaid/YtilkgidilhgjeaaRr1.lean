/-
  Rows of rows: a [][]int that a call hands back: its headers in one row, each list of ints in a row of its own.
-/
import Derived.Test.YtilkgidilhgjeaaWord
import Derived.StillTailTactics
namespace Go.Proofs.Ytilkgidilhgjeaa
open Go.RowKit
set_option linter.unusedVariables false
set_option linter.unusedSimpArgs false

theorem row_info : (Try.prog.info? 35).map (fun i => (i.zero, i.size, i.bytes)) = some (some (.slice none 0 0), 1, 24) := by kernel_rfl
/-- Rows of elements of two types are apart. -/
theorem ownC_apartR {e e' : TypeId} {z z' C D : Nat} {w : World} {ao bo : Option Addr} {n cap m d : Nat} {xs ys : List Value} (h : OwnC e z C w ao n cap xs) (k : OwnC e' z' D w bo m d ys) (hne : e ≠ e') : ∀ p q, rowOf ao cap = some p → rowOf bo d = some q → p ≠ q := by
  intro p q hp hq he
  subst he
  rcases h with ⟨_, _, h0⟩ | ⟨g, rfl, hr⟩
  · subst h0; simp [rowOf] at hp
  rcases k with ⟨_, _, k0⟩ | ⟨g', rfl, kr⟩
  · subst k0; simp [rowOf] at hq
  have hg : g = p := by unfold rowOf at hp; split at hp <;> simp_all
  have hg' : g' = p := by unfold rowOf at hq; split at hq <;> simp_all
  subst hg
  subst hg'
  rcases hr.2 with ⟨hv, _⟩ | ⟨b, cap1, cur1, hv, _, hb, _⟩
  · cases hv
  rcases kr.2 with ⟨kv, _⟩ | ⟨b', cap2, cur2, kv, _, kb, _⟩
  · cases kv
  simp only [Value.slice.injEq, Option.some.injEq, Addr.mk.injEq] at hv kv
  obtain ⟨⟨rfl, _⟩, _⟩ := hv
  obtain ⟨⟨rfl, _⟩, _⟩ := kv
  rw [hb] at kb
  simp only [Option.some.injEq, Obj.cells.injEq] at kb
  exact hne kb.2.1
/-- Where the row lies that an append hands back: in its old block, or in a new one. -/
theorem append_place {P : Program} (w : World) (t ty e : TypeId) (i : TypeInfo) (z : Value) (size bytes : Nat) (ht : P.underlying t = some (.slice e)) (hi : P.info? e = some i) (hz : i.zero = some z)
    (hsize : i.size = size) (hby : i.bytes = bytes) (hzs : z.cells.size = size) (hsz : 0 < size)
    (B : Nat) (ao : Option Addr) (n cap : Nat) (cs : List Value) (hown : OwnC e size B w ao n cap cs)
    (b off m c : Nat) (news : List Value) (hl : news.length = m * size) (hnews : ∀ j u, news[j]? = some u → w.cell? ((⟨b, off, none⟩ : Addr).add j) = some u) (h1 : ∀ u ∈ news, u.oneCell' = true)
    (hm : 0 < m) (h63 : n + m ≤ maxLen) (hbytes : (n + m) * bytes ≤ 140737488355328) (ao' : Option Addr) (cap' : Nat) (w' : World)
    (hr : (Builtin.append_ #[t, t] ty #[.slice ao n cap, .slice (some ⟨b, off, none⟩) m c]).run P w = .ok (.slice ao' (n + m) cap') w') :
    ∀ p, rowOf ao' cap' = some p → rowOf ao cap = some p ∨ w.heap.size ≤ p := by
  intro p hp
  have h63' : ((n + m : Nat) : Int) ≤ 9223372036854775807 := by simp only [maxLen] at h63; omega
  subst hsize
  subst hby
  have new : ao' = some ⟨w.heap.size, 0, none⟩ → w.heap.size ≤ p := by
    rintro rfl
    unfold rowOf at hp
    split at hp
    · cases hp
    · simp at hp; omega
  rcases hown with ⟨rfl, rfl, rfl⟩ | ⟨g, rfl, h⟩
  · right
    cases ao with
    | none =>
      have h2 := run_append_nil (P := P) w t ty e i z ht hi hz ⟨b, off, none⟩ m c news hl hnews hm (by omega) (by have hb := hbytes; simp only [Nat.zero_add] at hb; omega)
      have h3 := hr.symm.trans h2
      simp only [Result.ok.injEq, Value.slice.injEq] at h3
      exact new h3.1.1
    | some a0 =>
      have h2 := run_append_grow (P := P) w t ty e i z ht hi hz a0 0 0 [] (by simp) (by simp) ⟨b, off, none⟩ m c news hl hnews (by omega) h63' (growslice_fits (by omega) hbytes)
      have h3 := hr.symm.trans h2
      simp only [Result.ok.injEq, Value.slice.injEq] at h3
      exact new h3.1.1
  · rcases h.2 with ⟨hv, _⟩ | ⟨g', cap2, cur, hv, hbg, hg, hnc, hcm, hcs, htake⟩
    · cases hv
    · simp only [Value.slice.injEq, Option.some.injEq, Addr.mk.injEq] at hv
      obtain ⟨⟨rfl, _⟩, _, rfl⟩ := hv
      by_cases hroom : n + m ≤ cap
      · left
        have hfit : n * i.size + news.length ≤ cur.size := by rw [hl, hcs, ← Nat.add_mul]; exact Nat.mul_le_mul_right _ hroom
        have h2 := run_append_room (P := P) w t ty e i ht hi g n cap cur hg ⟨b, off, none⟩ m c news hl hnews h1 hroom hfit
        have h3 := hr.symm.trans h2
        simp only [Result.ok.injEq, Value.slice.injEq] at h3
        obtain ⟨⟨rfl, _, rfl⟩, _⟩ := h3
        exact hp
      · right
        have h2 := run_append_grow (P := P) w t ty e i z ht hi hz ⟨g, 0, none⟩ n cap cs h.1 (World.ownsRow.cells h (g := g) rfl) ⟨b, off, none⟩ m c news hl hnews (by omega) h63' (growslice_fits (by omega) hbytes)
        have h3 := hr.symm.trans h2
        simp only [Result.ok.injEq, Value.slice.injEq] at h3
        exact new h3.1.1
theorem wpList_append_i2 {w : World} {ops : Array Oper} {rest : List Oper} {o : Oper} {a : Act} {Q : Exit → Act → World → Prop} (hgd : o.guard = none) (s x : Operand)
    (ho : o.op = .call { callee := .builtin .append, args := #[s, x], argTypes := #[35, 35] })
    (B : Nat) (ao : Option Addr) (n cap : Nat) (xs : List Int) (u : Int) (hs : a.eval s = .slice ao n cap) (hx : a.eval x = .slice (some ⟨w.heap.size, 0, none⟩) 1 1)
    (hown : OwnI B w ao n cap xs) (hn : n < 999999990) (hB : B ≤ w.heap.size)
    (h : ∀ ao' cap' w', OwnI B w' ao' (n + 1) cap' (xs ++ [u]) → w.grownBy w' (rowOf ao cap) → (∀ p, rowOf ao' cap' = some p → rowOf ao cap = some p ∨ w.heap.size ≤ p) → wpList Try.prog ops Q rest (a.put o.dst (.slice ao' (n + 1) cap')) w') :
    wpList Try.prog ops Q (o :: rest) a (w.alloc (.cells #[.int .i64 u] 3)) := by
  obtain ⟨i, hi1, hi2, hi3, hi4⟩ := info_parts int_info
  have hown' := (hown.2.2.alloc (.cells #[.int .i64 u] 3))
  have hc := cellsAt_new w [Value.int .i64 u] 3
  have hcell : ∀ j v, [Value.int .i64 u][j]? = some v → (w.alloc (.cells #[.int .i64 u] 3)).cell? ((⟨w.heap.size, 0, none⟩ : Addr).add j) = some v := by
    intro j v hv
    rw [Addr.add_lit]
    rcases hc with h0 | ⟨b, off, e, _, hc⟩
    · cases h0
    · simp only [Option.some.injEq, Addr.mk.injEq] at e
      obtain ⟨rfl, rfl, _⟩ := e
      exact hc j v hv
  obtain ⟨ao', cap', w', hr, h2, h3⟩ := run_append_any (P := Try.prog) (w.alloc (.cells #[.int .i64 u] 3)) 35 o.type 3 i (.int .i64 0) 1 8 Try.underlying35 hi1 hi2 hi3 hi4 rfl (by decide) B ao n cap _ hown' (w.heap.size + 1) (some ⟨w.heap.size, 0, none⟩) 1 1 [.int .i64 u] rfl hc (by simp [Value.oneCell']) (by unfold maxLen; omega) (by omega) (by simp; omega)
  have hp := append_place (P := Try.prog) (w.alloc (.cells #[.int .i64 u] 3)) 35 o.type 3 i (.int .i64 0) 1 8 Try.underlying35 hi1 hi2 hi3 hi4 rfl (by decide) B ao n cap _ hown' w.heap.size 0 1 1 [.int .i64 u] rfl hcell (by simp [Value.oneCell']) (by decide) (by unfold maxLen; omega) (by omega) ao' cap' w' hr
  refine wpList_plain hgd fun K hK => ?_
  unfold Oper.wp execOp
  simp only [ho, resolve, invoke, builtin, Sem.run_bind, Sem.run_pure, Result.andThen_ok, List.map_toArray, List.map_cons, List.map_nil, hs, hx, hr]
  exact hK _ _ (h ao' cap' w' ⟨by simp [hown.1], by omega, by simpa using h2⟩ (grownBy_old h3) (fun p q => by
    rcases hp p q with h | h
    · exact .inl h
    · right; simp at h; omega))

def rowsCells (rows : List (List Int)) (hs : List (Option Addr × Nat)) : List Value := List.zipWith (fun (l : List Int) (h : Option Addr × Nat) => Value.slice h.1 l.length h.2) rows hs
theorem rowsCells_get {rows : List (List Int)} {hs : List (Option Addr × Nat)} {k : Nat} {l : List Int} {x : Option Addr × Nat} (h1 : rows[k]? = some l) (h2 : hs[k]? = some x) : (rowsCells rows hs)[k]? = some (.slice x.1 l.length x.2) := by
  simp [rowsCells, List.getElem?_zipWith, h1, h2]
theorem rowsCells_length {rows : List (List Int)} {hs : List (Option Addr × Nat)} (h : rows.length = hs.length) : (rowsCells rows hs).length = rows.length := by simp [rowsCells, h]
theorem rowsCells_snoc {rows : List (List Int)} {hs : List (Option Addr × Nat)} (h : rows.length = hs.length) (l : List Int) (x : Option Addr × Nat) : rowsCells (rows ++ [l]) (hs ++ [x]) = rowsCells rows hs ++ [.slice x.1 l.length x.2] := by
  unfold rowsCells
  rw [List.zipWith_append h]
  rfl
theorem rowsCells_set {rows : List (List Int)} {hs : List (Option Addr × Nat)} (k : Nat) (l : List Int) (x : Option Addr × Nat) : rowsCells (rows.set k l) (hs.set k x) = (rowsCells rows hs).set k (.slice x.1 l.length x.2) := by
  apply List.ext_getElem?
  intro j
  simp only [rowsCells, List.getElem?_zipWith, List.getElem?_set]
  by_cases e : k = j
  · subst e
    by_cases h1 : k < rows.length <;> by_cases h2 : k < hs.length <;> simp [h1, h2] <;> omega
  · simp [e]
theorem rowsCells_same {rows : List (List Int)} {hs : List (Option Addr × Nat)} (k : Nat) (l l' : List Int) (h : rows[k]? = some l) (he : l'.length = l.length) : rowsCells (rows.set k l') hs = rowsCells rows hs := by
  apply List.ext_getElem?
  intro j
  simp only [rowsCells, List.getElem?_zipWith, List.getElem?_set]
  by_cases e : k = j
  · subst e
    have h1 : k < rows.length := (List.getElem?_eq_some_iff.1 h).1
    simp only [if_true, h1, h]
    cases hs[k]? with
    | none => rfl
    | some z => simp [he]
  · simp [e]
def RApart (hs : List (Option Addr × Nat)) : Prop := ∀ (i j : Nat) (x y : Option Addr × Nat), hs[i]? = some x → hs[j]? = some y → i ≠ j → ∀ p, rowOf x.1 x.2 = some p → rowOf y.1 y.2 ≠ some p
/-- A [][]int that the call owns, from block B on. -/
structure RR (B : Nat) (w : World) (ao : Option Addr) (n cap : Nat) (hs : List (Option Addr × Nat)) (rows : List (List Int)) : Prop where
  len : rows.length = n
  le : n ≤ 1000000
  hlen : hs.length = n
  row : OwnC 35 1 B w ao n cap (rowsCells rows hs)
  parts : ∀ (k : Nat) (l : List Int) (x : Option Addr × Nat), rows[k]? = some l → hs[k]? = some x → OwnI B w x.1 l.length x.2 l
  apart : RApart hs
/-- It reads as rows. -/
def RowsR (w : World) (B : Nat) (ao : Option Addr) (n : Nat) (rows : List (List Int)) : Prop := rows.length = n ∧ n ≤ 1000000 ∧ ∃ hs : List (Option Addr × Nat), hs.length = n ∧ CellsAt w B ao (rowsCells rows hs) ∧ ∀ (k : Nat) (l : List Int) (x : Option Addr × Nat), rows[k]? = some l → hs[k]? = some x → Ints w B x.1 l.length l
section
variable {B C n cap g : Nat} {w w' : World} {ao : Option Addr} {hs : List (Option Addr × Nat)} {rows : List (List Int)}
theorem RR.nil (B : Nat) (w : World) (ao : Option Addr) : RR B w ao 0 0 [] [] :=
  ⟨rfl, by decide, rfl, OwnC.nil _ _ _ _ _, fun k l x h => by simp at h, fun i j x y h => by simp at h⟩
theorem RR.below (h : RR B w ao n cap hs rows) (hb : Below C w w') (hC : w.heap.size ≤ C) : RR B w' ao n cap hs rows :=
  ⟨h.len, h.le, h.hlen, h.row.below hb hC, fun k l x a b => (h.parts k l x a b).below hb hC, h.apart⟩
theorem RR.up (h : RR B w ao n cap hs rows) (hC : C ≤ B) : RR C w ao n cap hs rows :=
  ⟨h.len, h.le, h.hlen, h.row.up hC, fun k l x a b => (h.parts k l x a b).up hC, h.apart⟩
theorem rowNe {e e' : TypeId} {z C b : Nat} {w : World} {ao : Option Addr} {n cap : Nat} {xs : List Value} {cs : Array Value} {fr : Nat × Nat} (h : OwnC e z C w ao n cap xs) (hb : w.heap[b]? = some (.cells cs e' fr)) (hne : e ≠ e') : rowOf ao cap ≠ some b := by
  intro hp
  rcases h with ⟨_, _, h0⟩ | ⟨g, rfl, hr⟩
  · subst h0; simp [rowOf] at hp
  have hg : g = b := by unfold rowOf at hp; split at hp <;> simp_all
  subst hg
  rcases hr.2 with ⟨hv, _⟩ | ⟨b', cap1, cur1, hv, _, hb', _⟩
  · cases hv
  simp only [Value.slice.injEq, Option.some.injEq, Addr.mk.injEq] at hv
  obtain ⟨⟨rfl, _⟩, _⟩ := hv
  rw [hb] at hb'
  simp only [Option.some.injEq, Obj.cells.injEq] at hb'
  exact hne hb'.2.1.symm
/-- Another block below the base has turned. -/
theorem RR.far {g : Nat} (h : RR B w ao n cap hs rows) (hg : w.grownBy w' (some g)) (hB : g < B) : RR B w' ao n cap hs rows :=
  ⟨h.len, h.le, h.hlen, h.row.kept hg (fun q e _ he => by
    simp at he; subst he
    have := h.row.rowLt g (by subst e; simp [rowOf]; assumption)
    omega), fun k l x a b => (h.parts k l x a b).other hg (fun p q hp hq => by simp at hq; have := ((h.parts k l x a b).rowLt p hp).1; omega), h.apart⟩
theorem RR.rowsR (h : RR B w ao n cap hs rows) : RowsR w w.heap.size ao n rows :=
  ⟨h.len, h.le, hs, h.hlen, h.row.cellsAt, fun k l x a b => (h.parts k l x a b).ints⟩
theorem RowsR.below (h : RowsR w B ao n rows) (hb : Below C w w') (hC : B ≤ C) : RowsR w' B ao n rows := by
  obtain ⟨h1, h2, hs, h3, h4, h5⟩ := h
  exact ⟨h1, h2, hs, h3, h4.below hb hC, fun k l x a b => (h5 k l x a b).below hb hC⟩
theorem RowsR.up (h : RowsR w B ao n rows) (hC : B ≤ C) : RowsR w C ao n rows := by
  obtain ⟨h1, h2, hs, h3, h4, h5⟩ := h
  exact ⟨h1, h2, hs, h3, h4.up hC, fun k l x a b => (h5 k l x a b).up hC⟩
theorem RowsR.at (h : RowsR w B ao n rows) {k : Nat} (hk : k < n) : ∃ b off l xo c, ao = some ⟨b, off, none⟩ ∧ b < B ∧ rows[k]? = some l ∧ w.cell? ⟨b, off + k, none⟩ = some (.slice xo l.length c) ∧ Ints w B xo l.length l := by
  obtain ⟨h1, h2, hs, h3, h4, h5⟩ := h
  obtain ⟨l, hl⟩ : ∃ l, rows[k]? = some l := ⟨_, List.getElem?_eq_getElem (by omega)⟩
  obtain ⟨x, hx⟩ : ∃ x, hs[k]? = some x := ⟨_, List.getElem?_eq_getElem (by omega)⟩
  have hg := rowsCells_get hl hx
  rcases h4 with h0 | ⟨b, off, rfl, hb, hc⟩
  · rw [h0] at hg; simp at hg
  · exact ⟨b, off, l, x.1, x.2, rfl, hb, hl, hc k _ hg, h5 k l x hl hx⟩
theorem RR.at (h : RR B w ao n cap hs rows) {k : Nat} (hk : k < n) : ∃ g l x, ao = some ⟨g, 0, none⟩ ∧ B ≤ g ∧ g < w.heap.size ∧ rows[k]? = some l ∧ hs[k]? = some x ∧ w.cell? ⟨g, k, none⟩ = some (.slice x.1 l.length x.2) ∧ w.frozen? ⟨g, k, none⟩ = false ∧ OwnI B w x.1 l.length x.2 l ∧
    w.ownsRow B 35 1 (.slice (some ⟨g, 0, none⟩) n cap) n (rowsCells rows hs) ∧ rowOf (some ⟨g, 0, none⟩) cap = some g := by
  have h1 := h.len
  have h3 := h.hlen
  obtain ⟨l, hl⟩ : ∃ l, rows[k]? = some l := ⟨_, List.getElem?_eq_getElem (by omega)⟩
  obtain ⟨x, hx⟩ : ∃ x, hs[k]? = some x := ⟨_, List.getElem?_eq_getElem (by omega)⟩
  obtain ⟨g, rfl, q1, q2, q3⟩ := h.row.some (by omega)
  have hcap : cap ≠ 0 := by
    rcases q3.2 with ⟨hv, h0⟩ | ⟨g2, cap2, cur, hv, _, _, hn', _⟩
    · omega
    · simp only [Value.slice.injEq] at hv
      obtain ⟨_, _, rfl⟩ := hv
      omega
  refine ⟨g, l, x, rfl, q1, q2, hl, hx, ?_, World.ownsRow.frozenAt q3 k, h.parts k l x hl hx, q3, by simp [rowOf, hcap]⟩
  rw [World.ownsRow.cellAt q3 k (by omega)]
  exact rowsCells_get hl hx
/-- A list of the rows has been written over. -/
theorem RR.wrote (h : RR B w ao n cap hs rows) {k : Nat} {l l' : List Int} {x : Option Addr × Nat} (hl : rows[k]? = some l) (hx : hs[k]? = some x) (he : l'.length = l.length) (ho : OwnI B w' x.1 l'.length x.2 l') (hg : w.grownBy w' (rowOf x.1 x.2)) : RR B w' ao n cap hs (rows.set k l') := by
  have hp := h.parts k l x hl hx
  refine ⟨by rw [List.length_set]; exact h.len, h.le, h.hlen, ?_, fun j y z a b => ?_, h.apart⟩
  · rw [rowsCells_same k l l' hl he]
    refine h.row.kept hg fun g e hc hr => ?_
    exact ownC_apartR h.row hp.2.2 (by decide) g g (by subst e; simp [rowOf, hc]) hr rfl
  · by_cases e : k = j
    · subst e
      rw [List.getElem?_set_self (by exact (List.getElem?_eq_some_iff.1 hl).1)] at a
      rw [hx] at b
      simp only [Option.some.injEq] at a b
      subst a
      subst b
      exact ho
    · rw [List.getElem?_set_ne e] at a
      exact (h.parts j y z a b).other hg fun p q hp' hq => by rintro rfl; exact h.apart j k z x b hx (fun q => e q.symm) p hp' hq
/-- A list has been appended to, and its header stored. -/
theorem RR.put (h : RR B w (some ⟨g, 0, none⟩) n cap hs rows) {k : Nat} {l l' : List Int} {x : Option Addr × Nat} {ao' : Option Addr} {cap' : Nat} (hl : rows[k]? = some l) (hx : hs[k]? = some x) {n2 : Nat} (ho : OwnI B w' ao' n2 cap' l') (hg : w.grownBy w' (rowOf x.1 x.2))
    (hpl : ∀ p, rowOf ao' cap' = some p → rowOf x.1 x.2 = some p ∨ w.heap.size ≤ p) :
    RR B (w'.setCell ⟨g, k, none⟩ (.slice ao' n2 cap')) (some ⟨g, 0, none⟩) n cap (hs.set k (ao', cap')) (rows.set k l') ∧ w'.grownBy (w'.setCell ⟨g, k, none⟩ (.slice ao' n2 cap')) (some g) ∧ w'.frozen? ⟨g, k, none⟩ = false ∧ w'.cell? ⟨g, k, none⟩ = some (.slice x.1 l.length x.2) := by
  obtain rfl : l'.length = n2 := ho.1
  have hk : k < n := by rw [← h.len]; exact (List.getElem?_eq_some_iff.1 hl).1
  obtain ⟨g0, l0, x0, e0, q1, q2, hl0, hx0, hc0, hf0, hp, hrow, hro⟩ := h.at hk
  simp only [Option.some.injEq, Addr.mk.injEq] at e0
  obtain ⟨rfl, _⟩ := e0
  rw [hl] at hl0
  rw [hx] at hx0
  simp only [Option.some.injEq] at hl0 hx0
  subst hl0
  subst hx0
  have hgx : ∀ p, rowOf x.1 x.2 = some p → p ≠ g := fun p hp' => (ownC_apartR hp.2.2 h.row (by decide) p g hp' hro)
  have hrow' : w'.ownsRow B 35 1 (.slice (some ⟨g, 0, none⟩) n cap) n (rowsCells rows hs) := World.ownsRow.kept hrow hg (.inr (by
    intro e
    have : rowOf x.1 x.2 = some g := by rw [← e]; rfl
    exact hgx g this rfl))
  have hst := World.ownsRow.stored hrow' k (.slice ao' l'.length cap')
  rw [← rowsCells_set k l' (ao', cap')] at hst
  have hgs : w'.grownBy (w'.setCell ⟨g, k, none⟩ (.slice ao' l'.length cap')) (some g) := ⟨rfl, rfl, rfl, by simp [World.setCell], fun i _ hi => heap_setCell_other w' ⟨g, k, none⟩ i _ (fun e => hi (by simp [e]))⟩
  have hne : ∀ p, rowOf ao' cap' = some p → p ≠ g := fun p hp' => by
    rcases hpl p hp' with h1 | h1
    · exact hgx p h1
    · omega
  refine ⟨⟨by rw [List.length_set]; exact h.len, h.le, by rw [List.length_set]; exact h.hlen, .inr ⟨g, rfl, hst.1⟩, fun j y z a b => ?_, fun i j y z a b hij p hp' => ?_⟩, hgs, World.ownsRow.frozenAt hrow' k, ?_⟩
  · by_cases e : k = j
    · subst e
      rw [List.getElem?_set_self (by exact (List.getElem?_eq_some_iff.1 hl).1)] at a
      rw [List.getElem?_set_self (by exact (List.getElem?_eq_some_iff.1 hx).1)] at b
      simp only [Option.some.injEq] at a b
      subst a
      subst b
      exact ho.other hgs fun p q hp' hq => by simp at hq; subst hq; exact hne p hp'
    · rw [List.getElem?_set_ne e] at a b
      have h2 := (h.parts j y z a b).other hg fun p q hp' hq => by rintro rfl; exact h.apart j k z x b hx (fun q => e q.symm) p hp' hq
      exact h2.other hgs fun p q hp' hq => by
        simp at hq; subst hq
        exact ownC_apartR (h.parts j y z a b).2.2 h.row (by decide) p _ hp' hro
  · by_cases ei : k = i
    · subst ei
      rw [List.getElem?_set_self (by exact (List.getElem?_eq_some_iff.1 hx).1)] at a
      rw [List.getElem?_set_ne hij] at b
      simp only [Option.some.injEq] at a
      subst a
      intro hz
      obtain ⟨y2, hy2⟩ : ∃ y2, rows[j]? = some y2 := ⟨_, List.getElem?_eq_getElem (by have := (List.getElem?_eq_some_iff.1 b).1; rw [h.hlen] at this; rw [h.len]; exact this)⟩
      rcases hpl p hp' with h1 | h1
      · exact h.apart k j x z hx b hij p h1 hz
      · have := ((h.parts j y2 z hy2 b).rowLt p hz).2; omega
    · rw [List.getElem?_set_ne ei] at a
      by_cases ej : k = j
      · subst ej
        rw [List.getElem?_set_self (by exact (List.getElem?_eq_some_iff.1 hx).1)] at b
        simp only [Option.some.injEq] at b
        subst b
        intro hz
        obtain ⟨y2, hy2⟩ : ∃ y2, rows[i]? = some y2 := ⟨_, List.getElem?_eq_getElem (by have := (List.getElem?_eq_some_iff.1 a).1; rw [h.hlen] at this; rw [h.len]; exact this)⟩
        rcases hpl p hz with h1 | h1
        · exact h.apart i k y x a hx hij p hp' h1
        · have := ((h.parts i y2 y hy2 a).rowLt p hp').2; omega
      · rw [List.getElem?_set_ne ej] at b
        exact h.apart i j y z a b hij p hp'
  · rw [World.ownsRow.cellAt hrow' k (by omega)]
    exact rowsCells_get hl hx
/-- An empty row more. -/
theorem RR.more {ao' : Option Addr} {cap' : Nat} (h : RR B w ao n cap hs rows) (hn : n < 1000000) (ho : OwnC 35 1 B w' ao' (n + 1) cap' (rowsCells rows hs ++ [.slice none 0 0])) (hg : w.grownBy w' (rowOf ao cap)) : RR B w' ao' (n + 1) cap' (hs ++ [(none, 0)]) (rows ++ [[]]) := by
  refine ⟨by simp [h.len], by omega, by simp [h.hlen], by rw [rowsCells_snoc (h.len.trans h.hlen.symm)]; exact ho, fun k l x a b => ?_, fun i j y z a b hij p hp => ?_⟩
  · by_cases e : k < n
    · rw [List.getElem?_append_left (by rw [h.len]; exact e)] at a
      rw [List.getElem?_append_left (by rw [h.hlen]; exact e)] at b
      exact (h.parts k l x a b).other hg fun p q hp hq => ownC_apartR (h.parts k l x a b).2.2 h.row (by decide) p q hp hq
    · rw [List.getElem?_append_right (by rw [h.len]; omega), h.len] at a
      rw [List.getElem?_append_right (by rw [h.hlen]; omega), h.hlen] at b
      rcases Nat.eq_zero_or_pos (k - n) with h0 | h0
      · rw [h0] at a b
        simp at a b
        subst a
        subst b
        exact OwnI.nil _ _ _
      · rw [List.getElem?_eq_none (by simp; omega)] at a
        cases a
  · by_cases ei : i < n
    · rw [List.getElem?_append_left (by rw [h.hlen]; exact ei)] at a
      by_cases ej : j < n
      · rw [List.getElem?_append_left (by rw [h.hlen]; exact ej)] at b
        exact h.apart i j y z a b hij p hp
      · rw [List.getElem?_append_right (by rw [h.hlen]; omega), h.hlen] at b
        rcases Nat.eq_zero_or_pos (j - n) with h0 | h0
        · rw [h0] at b
          simp at b
          subst b
          simp [rowOf]
        · rw [List.getElem?_eq_none (by simp; omega)] at b
          cases b
    · rw [List.getElem?_append_right (by rw [h.hlen]; omega), h.hlen] at a
      rcases Nat.eq_zero_or_pos (i - n) with h0 | h0
      · rw [h0] at a
        simp at a
        subst a
        simp [rowOf] at hp
      · rw [List.getElem?_eq_none (by simp; omega)] at a
        cases a
end
end Go.Proofs.Ytilkgidilhgjeaa
