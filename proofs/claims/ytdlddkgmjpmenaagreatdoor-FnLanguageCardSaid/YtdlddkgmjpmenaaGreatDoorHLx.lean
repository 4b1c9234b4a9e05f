/-
  Rows of rows: a [][]int that a call hands back: its headers in one row, each list of ints in a row of its own.
-/
import Derived.Test.YtdlddkgmjpmenaaGreatDoorHLd
import Derived.StillTailTactics
import Derived.Test.YtdlddkgmjpmenaaGreatDoorHLc
import Derived.Test.YtdlddkgmjpmenaaGreatDoorQLd4
namespace Go.Proofs.YtdlddkgmjpmenaaGreatDoor
open Go.RowKit
set_option linter.unusedVariables false
set_option linter.unusedSimpArgs false

theorem row_info : (Tryz.prog.info? 29).map (fun i => (i.zero, i.size, i.bytes)) = some (some (.slice none 0 0), 1, 24) := by kernel_rfl
/-- Rows of elements of two types are apart. -/
theorem ownC_apartR {e e' : TypeId} {z z' C D : Nat} {w : World} {ao bo : Option Addr} {n cap m d : Nat} {xs ys : List Value} (h : OwnC e z C w ao n cap xs) (k : OwnC e' z' D w bo m d ys) (hne : e ≠ e') : ∀ p q, rowOf ao cap = some p → rowOf bo d = some q → p ≠ q := by
  intro p q hp hq he
  subst he
  rcases h with ⟨_, _, h0⟩ | ⟨g, rfl, hr⟩
  · subst h0; simp [rowOf] at hp
  rcases k with ⟨_, _, k0⟩ | ⟨g', rfl, kr⟩
  · subst k0; simp [rowOf] at hq
  have hg : g = p := by unfold rowOf at hp; split at hp <;> simp_all
  have hg' : g' = p := by unfold rowOf at hq; split at hq <;> simp_all
  subst hg
  subst hg'
  rcases hr.2 with ⟨hv, _⟩ | ⟨b, cap1, cur1, hv, _, hb, _⟩
  · cases hv
  rcases kr.2 with ⟨kv, _⟩ | ⟨b', cap2, cur2, kv, _, kb, _⟩
  · cases kv
  simp only [Value.slice.injEq, Option.some.injEq, Addr.mk.injEq] at hv kv
  obtain ⟨⟨rfl, _⟩, _⟩ := hv
  obtain ⟨⟨rfl, _⟩, _⟩ := kv
  rw [hb] at kb
  simp only [Option.some.injEq, Obj.cells.injEq] at kb
  exact hne kb.2.1
/-- Where the row lies that an append hands back: in its old block, or in a new one. -/
theorem append_place {P : Program} (w : World) (t ty e : TypeId) (i : TypeInfo) (z : Value) (size bytes : Nat) (ht : P.underlying t = some (.slice e)) (hi : P.info? e = some i) (hz : i.zero = some z)
    (hsize : i.size = size) (hby : i.bytes = bytes) (hzs : z.cells.size = size) (hsz : 0 < size)
    (B : Nat) (ao : Option Addr) (n cap : Nat) (cs : List Value) (hown : OwnC e size B w ao n cap cs)
    (b off m c : Nat) (news : List Value) (hl : news.length = m * size) (hnews : ∀ j u, news[j]? = some u → w.cell? ((⟨b, off, none⟩ : Addr).add j) = some u) (h1 : ∀ u ∈ news, u.oneCell' = true)
    (hm : 0 < m) (h63 : n + m ≤ maxLen) (hbytes : (n + m) * bytes ≤ 140737488355328) (ao' : Option Addr) (cap' : Nat) (w' : World)
    (hr : (Builtin.append_ #[t, t] ty #[.slice ao n cap, .slice (some ⟨b, off, none⟩) m c]).run P w = .ok (.slice ao' (n + m) cap') w') :
    ∀ p, rowOf ao' cap' = some p → rowOf ao cap = some p ∨ w.heap.size ≤ p := by
  intro p hp
  have h63' : ((n + m : Nat) : Int) ≤ 9223372036854775807 := by simp only [maxLen] at h63; omega
  subst hsize
  subst hby
  have new : ao' = some ⟨w.heap.size, 0, none⟩ → w.heap.size ≤ p := by
    rintro rfl
    unfold rowOf at hp
    split at hp
    · cases hp
    · simp at hp; omega
  rcases hown with ⟨rfl, rfl, rfl⟩ | ⟨g, rfl, h⟩
  · right
    cases ao with
    | none =>
      have h2 := run_append_nil (P := P) w t ty e i z ht hi hz ⟨b, off, none⟩ m c news hl hnews hm (by omega) (by have hb := hbytes; simp only [Nat.zero_add] at hb; omega)
      have h3 := hr.symm.trans h2
      simp only [Result.ok.injEq, Value.slice.injEq] at h3
      exact new h3.1.1
    | some a0 =>
      have h2 := run_append_grow (P := P) w t ty e i z ht hi hz a0 0 0 [] (by simp) (by simp) ⟨b, off, none⟩ m c news hl hnews (by omega) h63' (growslice_fits (by omega) hbytes)
      have h3 := hr.symm.trans h2
      simp only [Result.ok.injEq, Value.slice.injEq] at h3
      exact new h3.1.1
  · rcases h.2 with ⟨hv, _⟩ | ⟨g', cap2, cur, hv, hbg, hg, hnc, hcm, hcs, htake⟩
    · cases hv
    · simp only [Value.slice.injEq, Option.some.injEq, Addr.mk.injEq] at hv
      obtain ⟨⟨rfl, _⟩, _, rfl⟩ := hv
      by_cases hroom : n + m ≤ cap
      · left
        have hfit : n * i.size + news.length ≤ cur.size := by rw [hl, hcs, ← Nat.add_mul]; exact Nat.mul_le_mul_right _ hroom
        have h2 := run_append_room (P := P) w t ty e i ht hi g n cap cur hg ⟨b, off, none⟩ m c news hl hnews h1 hroom hfit
        have h3 := hr.symm.trans h2
        simp only [Result.ok.injEq, Value.slice.injEq] at h3
        obtain ⟨⟨rfl, _, rfl⟩, _⟩ := h3
        exact hp
      · right
        have h2 := run_append_grow (P := P) w t ty e i z ht hi hz ⟨g, 0, none⟩ n cap cs h.1 (World.ownsRow.cells h (g := g) rfl) ⟨b, off, none⟩ m c news hl hnews (by omega) h63' (growslice_fits (by omega) hbytes)
        have h3 := hr.symm.trans h2
        simp only [Result.ok.injEq, Value.slice.injEq] at h3
        exact new h3.1.1
theorem wpList_append_i2 {w : World} {ops : Array Oper} {rest : List Oper} {o : Oper} {a : Act} {Q : Exit → Act → World → Prop} (hgd : o.guard = none) (s x : Operand)
    (ho : o.op = .call { callee := .builtin .append, args := #[s, x], argTypes := #[29, 29] })
    (B : Nat) (ao : Option Addr) (n cap : Nat) (xs : List Int) (u : Int) (hs : a.eval s = .slice ao n cap) (hx : a.eval x = .slice (some ⟨w.heap.size, 0, none⟩) 1 1)
    (hown : OwnI B w ao n cap xs) (hn : n < 999999990) (hB : B ≤ w.heap.size)
    (h : ∀ ao' cap' w', OwnI B w' ao' (n + 1) cap' (xs ++ [u]) → w.grownBy w' (rowOf ao cap) → (∀ p, rowOf ao' cap' = some p → rowOf ao cap = some p ∨ w.heap.size ≤ p) → wpList Tryz.prog ops Q rest (a.put o.dst (.slice ao' (n + 1) cap')) w') :
    wpList Tryz.prog ops Q (o :: rest) a (w.alloc (.cells #[.int .i64 u] 3)) := by
  obtain ⟨i, hi1, hi2, hi3, hi4⟩ := info_parts int_info
  have hown' := (hown.2.2.alloc (.cells #[.int .i64 u] 3))
  have hc := cellsAt_new w [Value.int .i64 u] 3
  have hcell : ∀ j v, [Value.int .i64 u][j]? = some v → (w.alloc (.cells #[.int .i64 u] 3)).cell? ((⟨w.heap.size, 0, none⟩ : Addr).add j) = some v := by
    intro j v hv
    rw [Addr.add_lit]
    rcases hc with h0 | ⟨b, off, e, _, hc⟩
    · cases h0
    · simp only [Option.some.injEq, Addr.mk.injEq] at e
      obtain ⟨rfl, rfl, _⟩ := e
      exact hc j v hv
  obtain ⟨ao', cap', w', hr, h2, h3⟩ := run_append_any (P := Tryz.prog) (w.alloc (.cells #[.int .i64 u] 3)) 29 o.type 3 i (.int .i64 0) 1 8 Tryz.underlying29 hi1 hi2 hi3 hi4 rfl (by decide) B ao n cap _ hown' (w.heap.size + 1) (some ⟨w.heap.size, 0, none⟩) 1 1 [.int .i64 u] rfl hc (by simp [Value.oneCell']) (by unfold maxLen; omega) (by omega) (by simp; omega)
  have hp := append_place (P := Tryz.prog) (w.alloc (.cells #[.int .i64 u] 3)) 29 o.type 3 i (.int .i64 0) 1 8 Tryz.underlying29 hi1 hi2 hi3 hi4 rfl (by decide) B ao n cap _ hown' w.heap.size 0 1 1 [.int .i64 u] rfl hcell (by simp [Value.oneCell']) (by decide) (by unfold maxLen; omega) (by omega) ao' cap' w' hr
  refine wpList_plain hgd fun K hK => ?_
  unfold Oper.wp execOp
  simp only [ho, resolve, invoke, builtin, Sem.run_bind, Sem.run_pure, Result.andThen_ok, List.map_toArray, List.map_cons, List.map_nil, hs, hx, hr]
  exact hK _ _ (h ao' cap' w' ⟨by simp [hown.1], by omega, by simpa using h2⟩ (grownBy_old h3) (fun p q => by
    rcases hp p q with h | h
    · exact .inl h
    · right; simp at h; omega))

def rowsCells (rows : List (List Int)) (hs : List (Option Addr × Nat)) : List Value := List.zipWith (fun (l : List Int) (h : Option Addr × Nat) => Value.slice h.1 l.length h.2) rows hs
theorem rowsCells_get {rows : List (List Int)} {hs : List (Option Addr × Nat)} {k : Nat} {l : List Int} {x : Option Addr × Nat} (h1 : rows[k]? = some l) (h2 : hs[k]? = some x) : (rowsCells rows hs)[k]? = some (.slice x.1 l.length x.2) := by
  simp [rowsCells, List.getElem?_zipWith, h1, h2]
theorem rowsCells_length {rows : List (List Int)} {hs : List (Option Addr × Nat)} (h : rows.length = hs.length) : (rowsCells rows hs).length = rows.length := by simp [rowsCells, h]
theorem rowsCells_snoc {rows : List (List Int)} {hs : List (Option Addr × Nat)} (h : rows.length = hs.length) (l : List Int) (x : Option Addr × Nat) : rowsCells (rows ++ [l]) (hs ++ [x]) = rowsCells rows hs ++ [.slice x.1 l.length x.2] := by
  unfold rowsCells
  rw [List.zipWith_append h]
  rfl
theorem rowsCells_set {rows : List (List Int)} {hs : List (Option Addr × Nat)} (k : Nat) (l : List Int) (x : Option Addr × Nat) : rowsCells (rows.set k l) (hs.set k x) = (rowsCells rows hs).set k (.slice x.1 l.length x.2) := by
  apply List.ext_getElem?
  intro j
  simp only [rowsCells, List.getElem?_zipWith, List.getElem?_set]
  by_cases e : k = j
  · subst e
    by_cases h1 : k < rows.length <;> by_cases h2 : k < hs.length <;> simp [h1, h2] <;> omega
  · simp [e]
theorem rowsCells_same {rows : List (List Int)} {hs : List (Option Addr × Nat)} (k : Nat) (l l' : List Int) (h : rows[k]? = some l) (he : l'.length = l.length) : rowsCells (rows.set k l') hs = rowsCells rows hs := by
  apply List.ext_getElem?
  intro j
  simp only [rowsCells, List.getElem?_zipWith, List.getElem?_set]
  by_cases e : k = j
  · subst e
    have h1 : k < rows.length := (List.getElem?_eq_some_iff.1 h).1
    simp only [if_true, h1, h]
    cases hs[k]? with
    | none => rfl
    | some z => simp [he]
  · simp [e]
def RApart (hs : List (Option Addr × Nat)) : Prop := ∀ (i j : Nat) (x y : Option Addr × Nat), hs[i]? = some x → hs[j]? = some y → i ≠ j → ∀ p, rowOf x.1 x.2 = some p → rowOf y.1 y.2 ≠ some p
/-- A [][]int that the call owns, from block B on. -/
structure RR (B : Nat) (w : World) (ao : Option Addr) (n cap : Nat) (hs : List (Option Addr × Nat)) (rows : List (List Int)) : Prop where
  len : rows.length = n
  le : n ≤ 1000000
  hlen : hs.length = n
  row : OwnC 29 1 B w ao n cap (rowsCells rows hs)
  parts : ∀ (k : Nat) (l : List Int) (x : Option Addr × Nat), rows[k]? = some l → hs[k]? = some x → OwnI B w x.1 l.length x.2 l
  apart : RApart hs
/-- It reads as rows. -/
def RowsR (w : World) (B : Nat) (ao : Option Addr) (n : Nat) (rows : List (List Int)) : Prop := rows.length = n ∧ n ≤ 1000000 ∧ ∃ hs : List (Option Addr × Nat), hs.length = n ∧ CellsAt w B ao (rowsCells rows hs) ∧ ∀ (k : Nat) (l : List Int) (x : Option Addr × Nat), rows[k]? = some l → hs[k]? = some x → Ints w B x.1 l.length l
section
variable {B C n cap g : Nat} {w w' : World} {ao : Option Addr} {hs : List (Option Addr × Nat)} {rows : List (List Int)}
theorem RR.nil (B : Nat) (w : World) (ao : Option Addr) : RR B w ao 0 0 [] [] :=
  ⟨rfl, by decide, rfl, OwnC.nil _ _ _ _ _, fun k l x h => by simp at h, fun i j x y h => by simp at h⟩
theorem RR.below (h : RR B w ao n cap hs rows) (hb : Below C w w') (hC : w.heap.size ≤ C) : RR B w' ao n cap hs rows :=
  ⟨h.len, h.le, h.hlen, h.row.below hb hC, fun k l x a b => (h.parts k l x a b).below hb hC, h.apart⟩
theorem RR.up (h : RR B w ao n cap hs rows) (hC : C ≤ B) : RR C w ao n cap hs rows :=
  ⟨h.len, h.le, h.hlen, h.row.up hC, fun k l x a b => (h.parts k l x a b).up hC, h.apart⟩
theorem rowNe {e e' : TypeId} {z C b : Nat} {w : World} {ao : Option Addr} {n cap : Nat} {xs : List Value} {cs : Array Value} {fr : Nat × Nat} (h : OwnC e z C w ao n cap xs) (hb : w.heap[b]? = some (.cells cs e' fr)) (hne : e ≠ e') : rowOf ao cap ≠ some b := by
  intro hp
  rcases h with ⟨_, _, h0⟩ | ⟨g, rfl, hr⟩
  · subst h0; simp [rowOf] at hp
  have hg : g = b := by unfold rowOf at hp; split at hp <;> simp_all
  subst hg
  rcases hr.2 with ⟨hv, _⟩ | ⟨b', cap1, cur1, hv, _, hb', _⟩
  · cases hv
  simp only [Value.slice.injEq, Option.some.injEq, Addr.mk.injEq] at hv
  obtain ⟨⟨rfl, _⟩, _⟩ := hv
  rw [hb] at hb'
  simp only [Option.some.injEq, Obj.cells.injEq] at hb'
  exact hne hb'.2.1.symm
/-- Another block below the base has turned. -/
theorem RR.far {g : Nat} (h : RR B w ao n cap hs rows) (hg : w.grownBy w' (some g)) (hB : g < B) : RR B w' ao n cap hs rows :=
  ⟨h.len, h.le, h.hlen, h.row.kept hg (fun q e _ he => by
    simp at he; subst he
    have := h.row.rowLt g (by subst e; simp [rowOf]; assumption)
    omega), fun k l x a b => (h.parts k l x a b).other hg (fun p q hp hq => by simp at hq; have := ((h.parts k l x a b).rowLt p hp).1; omega), h.apart⟩
theorem RR.rowsR (h : RR B w ao n cap hs rows) : RowsR w w.heap.size ao n rows :=
  ⟨h.len, h.le, hs, h.hlen, h.row.cellsAt, fun k l x a b => (h.parts k l x a b).ints⟩
theorem RowsR.below (h : RowsR w B ao n rows) (hb : Below C w w') (hC : B ≤ C) : RowsR w' B ao n rows := by
  obtain ⟨h1, h2, hs, h3, h4, h5⟩ := h
  exact ⟨h1, h2, hs, h3, h4.below hb hC, fun k l x a b => (h5 k l x a b).below hb hC⟩
theorem RowsR.up (h : RowsR w B ao n rows) (hC : B ≤ C) : RowsR w C ao n rows := by
  obtain ⟨h1, h2, hs, h3, h4, h5⟩ := h
  exact ⟨h1, h2, hs, h3, h4.up hC, fun k l x a b => (h5 k l x a b).up hC⟩
theorem RowsR.at (h : RowsR w B ao n rows) {k : Nat} (hk : k < n) : ∃ b off l xo c, ao = some ⟨b, off, none⟩ ∧ b < B ∧ rows[k]? = some l ∧ w.cell? ⟨b, off + k, none⟩ = some (.slice xo l.length c) ∧ Ints w B xo l.length l := by
  obtain ⟨h1, h2, hs, h3, h4, h5⟩ := h
  obtain ⟨l, hl⟩ : ∃ l, rows[k]? = some l := ⟨_, List.getElem?_eq_getElem (by omega)⟩
  obtain ⟨x, hx⟩ : ∃ x, hs[k]? = some x := ⟨_, List.getElem?_eq_getElem (by omega)⟩
  have hg := rowsCells_get hl hx
  rcases h4 with h0 | ⟨b, off, rfl, hb, hc⟩
  · rw [h0] at hg; simp at hg
  · exact ⟨b, off, l, x.1, x.2, rfl, hb, hl, hc k _ hg, h5 k l x hl hx⟩
theorem RR.at (h : RR B w ao n cap hs rows) {k : Nat} (hk : k < n) : ∃ g l x, ao = some ⟨g, 0, none⟩ ∧ B ≤ g ∧ g < w.heap.size ∧ rows[k]? = some l ∧ hs[k]? = some x ∧ w.cell? ⟨g, k, none⟩ = some (.slice x.1 l.length x.2) ∧ w.frozen? ⟨g, k, none⟩ = false ∧ OwnI B w x.1 l.length x.2 l ∧
    w.ownsRow B 29 1 (.slice (some ⟨g, 0, none⟩) n cap) n (rowsCells rows hs) ∧ rowOf (some ⟨g, 0, none⟩) cap = some g := by
  have h1 := h.len
  have h3 := h.hlen
  obtain ⟨l, hl⟩ : ∃ l, rows[k]? = some l := ⟨_, List.getElem?_eq_getElem (by omega)⟩
  obtain ⟨x, hx⟩ : ∃ x, hs[k]? = some x := ⟨_, List.getElem?_eq_getElem (by omega)⟩
  obtain ⟨g, rfl, q1, q2, q3⟩ := h.row.some (by omega)
  have hcap : cap ≠ 0 := by
    rcases q3.2 with ⟨hv, h0⟩ | ⟨g2, cap2, cur, hv, _, _, hn', _⟩
    · omega
    · simp only [Value.slice.injEq] at hv
      obtain ⟨_, _, rfl⟩ := hv
      omega
  refine ⟨g, l, x, rfl, q1, q2, hl, hx, ?_, World.ownsRow.frozenAt q3 k, h.parts k l x hl hx, q3, by simp [rowOf, hcap]⟩
  rw [World.ownsRow.cellAt q3 k (by omega)]
  exact rowsCells_get hl hx
/-- A list of the rows has been written over. -/
theorem RR.wrote (h : RR B w ao n cap hs rows) {k : Nat} {l l' : List Int} {x : Option Addr × Nat} (hl : rows[k]? = some l) (hx : hs[k]? = some x) (he : l'.length = l.length) (ho : OwnI B w' x.1 l'.length x.2 l') (hg : w.grownBy w' (rowOf x.1 x.2)) : RR B w' ao n cap hs (rows.set k l') := by
  have hp := h.parts k l x hl hx
  refine ⟨by rw [List.length_set]; exact h.len, h.le, h.hlen, ?_, fun j y z a b => ?_, h.apart⟩
  · rw [rowsCells_same k l l' hl he]
    refine h.row.kept hg fun g e hc hr => ?_
    exact ownC_apartR h.row hp.2.2 (by decide) g g (by subst e; simp [rowOf, hc]) hr rfl
  · by_cases e : k = j
    · subst e
      rw [List.getElem?_set_self (by exact (List.getElem?_eq_some_iff.1 hl).1)] at a
      rw [hx] at b
      simp only [Option.some.injEq] at a b
      subst a
      subst b
      exact ho
    · rw [List.getElem?_set_ne e] at a
      exact (h.parts j y z a b).other hg fun p q hp' hq => by rintro rfl; exact h.apart j k z x b hx (fun q => e q.symm) p hp' hq
/-- A list has been appended to, and its header stored. -/
theorem RR.put (h : RR B w (some ⟨g, 0, none⟩) n cap hs rows) {k : Nat} {l l' : List Int} {x : Option Addr × Nat} {ao' : Option Addr} {cap' : Nat} (hl : rows[k]? = some l) (hx : hs[k]? = some x) {n2 : Nat} (ho : OwnI B w' ao' n2 cap' l') (hg : w.grownBy w' (rowOf x.1 x.2))
    (hpl : ∀ p, rowOf ao' cap' = some p → rowOf x.1 x.2 = some p ∨ w.heap.size ≤ p) :
    RR B (w'.setCell ⟨g, k, none⟩ (.slice ao' n2 cap')) (some ⟨g, 0, none⟩) n cap (hs.set k (ao', cap')) (rows.set k l') ∧ w'.grownBy (w'.setCell ⟨g, k, none⟩ (.slice ao' n2 cap')) (some g) ∧ w'.frozen? ⟨g, k, none⟩ = false ∧ w'.cell? ⟨g, k, none⟩ = some (.slice x.1 l.length x.2) := by
  obtain rfl : l'.length = n2 := ho.1
  have hk : k < n := by rw [← h.len]; exact (List.getElem?_eq_some_iff.1 hl).1
  obtain ⟨g0, l0, x0, e0, q1, q2, hl0, hx0, hc0, hf0, hp, hrow, hro⟩ := h.at hk
  simp only [Option.some.injEq, Addr.mk.injEq] at e0
  obtain ⟨rfl, _⟩ := e0
  rw [hl] at hl0
  rw [hx] at hx0
  simp only [Option.some.injEq] at hl0 hx0
  subst hl0
  subst hx0
  have hgx : ∀ p, rowOf x.1 x.2 = some p → p ≠ g := fun p hp' => (ownC_apartR hp.2.2 h.row (by decide) p g hp' hro)
  have hrow' : w'.ownsRow B 29 1 (.slice (some ⟨g, 0, none⟩) n cap) n (rowsCells rows hs) := World.ownsRow.kept hrow hg (.inr (by
    intro e
    have : rowOf x.1 x.2 = some g := by rw [← e]; rfl
    exact hgx g this rfl))
  have hst := World.ownsRow.stored hrow' k (.slice ao' l'.length cap')
  rw [← rowsCells_set k l' (ao', cap')] at hst
  have hgs : w'.grownBy (w'.setCell ⟨g, k, none⟩ (.slice ao' l'.length cap')) (some g) := ⟨rfl, rfl, rfl, by simp [World.setCell], fun i _ hi => heap_setCell_other w' ⟨g, k, none⟩ i _ (fun e => hi (by simp [e]))⟩
  have hne : ∀ p, rowOf ao' cap' = some p → p ≠ g := fun p hp' => by
    rcases hpl p hp' with h1 | h1
    · exact hgx p h1
    · omega
  refine ⟨⟨by rw [List.length_set]; exact h.len, h.le, by rw [List.length_set]; exact h.hlen, .inr ⟨g, rfl, hst.1⟩, fun j y z a b => ?_, fun i j y z a b hij p hp' => ?_⟩, hgs, World.ownsRow.frozenAt hrow' k, ?_⟩
  · by_cases e : k = j
    · subst e
      rw [List.getElem?_set_self (by exact (List.getElem?_eq_some_iff.1 hl).1)] at a
      rw [List.getElem?_set_self (by exact (List.getElem?_eq_some_iff.1 hx).1)] at b
      simp only [Option.some.injEq] at a b
      subst a
      subst b
      exact ho.other hgs fun p q hp' hq => by simp at hq; subst hq; exact hne p hp'
    · rw [List.getElem?_set_ne e] at a b
      have h2 := (h.parts j y z a b).other hg fun p q hp' hq => by rintro rfl; exact h.apart j k z x b hx (fun q => e q.symm) p hp' hq
      exact h2.other hgs fun p q hp' hq => by
        simp at hq; subst hq
        exact ownC_apartR (h.parts j y z a b).2.2 h.row (by decide) p _ hp' hro
  · by_cases ei : k = i
    · subst ei
      rw [List.getElem?_set_self (by exact (List.getElem?_eq_some_iff.1 hx).1)] at a
      rw [List.getElem?_set_ne hij] at b
      simp only [Option.some.injEq] at a
      subst a
      intro hz
      obtain ⟨y2, hy2⟩ : ∃ y2, rows[j]? = some y2 := ⟨_, List.getElem?_eq_getElem (by have := (List.getElem?_eq_some_iff.1 b).1; rw [h.hlen] at this; rw [h.len]; exact this)⟩
      rcases hpl p hp' with h1 | h1
      · exact h.apart k j x z hx b hij p h1 hz
      · have := ((h.parts j y2 z hy2 b).rowLt p hz).2; omega
    · rw [List.getElem?_set_ne ei] at a
      by_cases ej : k = j
      · subst ej
        rw [List.getElem?_set_self (by exact (List.getElem?_eq_some_iff.1 hx).1)] at b
        simp only [Option.some.injEq] at b
        subst b
        intro hz
        obtain ⟨y2, hy2⟩ : ∃ y2, rows[i]? = some y2 := ⟨_, List.getElem?_eq_getElem (by have := (List.getElem?_eq_some_iff.1 a).1; rw [h.hlen] at this; rw [h.len]; exact this)⟩
        rcases hpl p hz with h1 | h1
        · exact h.apart i k y x a hx hij p hp' h1
        · have := ((h.parts i y2 y hy2 a).rowLt p hp').2; omega
      · rw [List.getElem?_set_ne ej] at b
        exact h.apart i j y z a b hij p hp'
  · rw [World.ownsRow.cellAt hrow' k (by omega)]
    exact rowsCells_get hl hx
/-- An empty row more. -/
theorem RR.more {ao' : Option Addr} {cap' : Nat} (h : RR B w ao n cap hs rows) (hn : n < 1000000) (ho : OwnC 29 1 B w' ao' (n + 1) cap' (rowsCells rows hs ++ [.slice none 0 0])) (hg : w.grownBy w' (rowOf ao cap)) : RR B w' ao' (n + 1) cap' (hs ++ [(none, 0)]) (rows ++ [[]]) := by
  refine ⟨by simp [h.len], by omega, by simp [h.hlen], by rw [rowsCells_snoc (h.len.trans h.hlen.symm)]; exact ho, fun k l x a b => ?_, fun i j y z a b hij p hp => ?_⟩
  · by_cases e : k < n
    · rw [List.getElem?_append_left (by rw [h.len]; exact e)] at a
      rw [List.getElem?_append_left (by rw [h.hlen]; exact e)] at b
      exact (h.parts k l x a b).other hg fun p q hp hq => ownC_apartR (h.parts k l x a b).2.2 h.row (by decide) p q hp hq
    · rw [List.getElem?_append_right (by rw [h.len]; omega), h.len] at a
      rw [List.getElem?_append_right (by rw [h.hlen]; omega), h.hlen] at b
      rcases Nat.eq_zero_or_pos (k - n) with h0 | h0
      · rw [h0] at a b
        simp at a b
        subst a
        subst b
        exact OwnI.nil _ _ _
      · rw [List.getElem?_eq_none (by simp; omega)] at a
        cases a
  · by_cases ei : i < n
    · rw [List.getElem?_append_left (by rw [h.hlen]; exact ei)] at a
      by_cases ej : j < n
      · rw [List.getElem?_append_left (by rw [h.hlen]; exact ej)] at b
        exact h.apart i j y z a b hij p hp
      · rw [List.getElem?_append_right (by rw [h.hlen]; omega), h.hlen] at b
        rcases Nat.eq_zero_or_pos (j - n) with h0 | h0
        · rw [h0] at b
          simp at b
          subst b
          simp [rowOf]
        · rw [List.getElem?_eq_none (by simp; omega)] at b
          cases b
    · rw [List.getElem?_append_right (by rw [h.hlen]; omega), h.hlen] at a
      rcases Nat.eq_zero_or_pos (i - n) with h0 | h0
      · rw [h0] at a
        simp at a
        subst a
        simp [rowOf] at hp
      · rw [List.getElem?_eq_none (by simp; omega)] at a
        cases a
/-- A row more. -/
theorem RR.app {S : Nat} {ao' : Option Addr} {cap' : Nat} {l0 : List Int} {x0 : Option Addr × Nat} (h : RR B w ao n cap hs rows) (hx : OwnI S w x0.1 l0.length x0.2 l0) (hS : ∀ (i : Nat) (y : Option Addr × Nat) (p : Nat), hs[i]? = some y → rowOf y.1 y.2 = some p → p < S) (hBS : B ≤ S) (hn : n < 1000000) (ho : OwnC 29 1 B w' ao' (n + 1) cap' (rowsCells rows hs ++ [.slice x0.1 l0.length x0.2])) (hg : w.grownBy w' (rowOf ao cap)) : RR B w' ao' (n + 1) cap' (hs ++ [x0]) (rows ++ [l0]) := by
  have keep : ∀ {y : Option Addr × Nat} {m : Nat} {ss : List Int} {T : Nat}, OwnI T w y.1 m y.2 ss → OwnI T w' y.1 m y.2 ss := fun hq => hq.other hg fun p q hp hq2 => ownC_apartR hq.2.2 h.row (by decide) p q hp hq2
  refine ⟨by simp [h.len], by omega, by simp [h.hlen], by rw [rowsCells_snoc (h.len.trans h.hlen.symm)]; exact ho, fun k l x a b => ?_, fun i j y z a b hij p hp => ?_⟩
  · by_cases e : k < n
    · rw [List.getElem?_append_left (by rw [h.len]; exact e)] at a
      rw [List.getElem?_append_left (by rw [h.hlen]; exact e)] at b
      exact keep (h.parts k l x a b)
    · rw [List.getElem?_append_right (by rw [h.len]; omega), h.len] at a
      rw [List.getElem?_append_right (by rw [h.hlen]; omega), h.hlen] at b
      rcases Nat.eq_zero_or_pos (k - n) with h0 | h0
      · rw [h0] at a b
        simp at a b
        subst a
        subst b
        exact keep (hx.up hBS)
      · rw [List.getElem?_eq_none (by simp; omega)] at a
        cases a
  · by_cases ei : i < n
    · rw [List.getElem?_append_left (by rw [h.hlen]; exact ei)] at a
      by_cases ej : j < n
      · rw [List.getElem?_append_left (by rw [h.hlen]; exact ej)] at b
        exact h.apart i j y z a b hij p hp
      · rw [List.getElem?_append_right (by rw [h.hlen]; omega), h.hlen] at b
        rcases Nat.eq_zero_or_pos (j - n) with h0 | h0
        · rw [h0] at b
          simp at b
          subst b
          intro hz
          have e1 := (hx.rowLt p hz).1
          have e2 := hS i y p a hp
          omega
        · rw [List.getElem?_eq_none (by simp; omega)] at b
          cases b
    · rw [List.getElem?_append_right (by rw [h.hlen]; omega), h.hlen] at a
      rcases Nat.eq_zero_or_pos (i - n) with h0 | h0
      · rw [h0] at a
        simp at a
        subst a
        by_cases ej : j < n
        · rw [List.getElem?_append_left (by rw [h.hlen]; exact ej)] at b
          intro hz
          have e1 := (hx.rowLt p hp).1
          have e2 := hS j z p b hz
          omega
        · rw [List.getElem?_append_right (by rw [h.hlen]; omega), h.hlen] at b
          rcases Nat.eq_zero_or_pos (j - n) with h1 | h1
          · omega
          · rw [List.getElem?_eq_none (by simp; omega)] at b
            cases b
      · rw [List.getElem?_eq_none (by simp; omega)] at a
        cases a
theorem RR.rowsIn (h : RR B w ao n cap hs rows) : ∀ (i : Nat) (y : Option Addr × Nat) (p : Nat), hs[i]? = some y → rowOf y.1 y.2 = some p → p < w.heap.size := by
  intro i y p hy hp
  obtain ⟨l, hl⟩ : ∃ l, rows[i]? = some l := ⟨_, List.getElem?_eq_getElem (by have := (List.getElem?_eq_some_iff.1 hy).1; rw [h.hlen] at this; rw [h.len]; exact this)⟩
  exact ((h.parts i l y hl hy).rowLt p hp).2
/-- Only a block above all rows, or one below the base, has turned. -/
theorem RR.farN {W : World} {row : Option Nat} (h0 : RR B W ao n cap hs rows) (h : RR B w ao n cap hs rows) (hg : w.grownBy w' row) (hN : ∀ g, row = some g → W.heap.size ≤ g) : RR B w' ao n cap hs rows :=
  ⟨h.len, h.le, h.hlen, h.row.kept hg (fun q e hc he => by
    have h1 := hN q he
    have := (h0.row.rowLt q (by subst e; simp [rowOf, hc])).2
    omega), fun k l x a b => (h.parts k l x a b).other hg (fun p q hp hq => by have := hN q hq; have := ((h0.parts k l x a b).rowLt p hp).2; omega), h.apart⟩
end
end Go.Proofs.YtdlddkgmjpmenaaGreatDoor
/-
  Draws of programs: numbers for the inputs of a program.
-/
namespace Go.Proofs.YtdlddkgmjpmenaaGreatDoor
open Go.RowKit
set_option linter.unusedVariables false
set_option linter.unusedSimpArgs false

def mx (u v : Int) : Int := if u < v then v else u
def mn (u v : Int) : Int := if u < v then u else v
theorem l1Most_any (a b : Int) (w : World) : Calls Tryz.prog 93 #[.int .i64 a, .int .i64 b] w fun e w' => e = .returned (.int .i64 (mx a b)) ∧ w = w' := by
  by_cases h : b < a
  · go_enter Tryz.func93, Tryz.ntmps93
    go_wp2_with fail
    go_ret
    exact ⟨ret_int (by unfold mx; split <;> omega), rfl⟩
  · go_enter Tryz.func93, Tryz.ntmps93
    go_wp2_with fail
    go_ret
    exact ⟨ret_int (by unfold mx; split <;> omega), rfl⟩
theorem l1Least_any (a b : Int) (w : World) : Calls Tryz.prog 94 #[.int .i64 a, .int .i64 b] w fun e w' => e = .returned (.int .i64 (mn a b)) ∧ w = w' := by
  by_cases h : a < b
  · go_enter Tryz.func94, Tryz.ntmps94
    go_wp2_with fail
    go_ret
    exact ⟨ret_int (by unfold mn; split <;> omega), rfl⟩
  · go_enter Tryz.func94, Tryz.ntmps94
    go_wp2_with fail
    go_ret
    exact ⟨ret_int (by unfold mn; split <;> omega), rfl⟩
theorem clamp12 (x : Int) : 0 ≤ mx 0 (mn x 12) ∧ mx 0 (mn x 12) ≤ 12 := by
  unfold mx mn
  split <;> split at * <;> omega
theorem pow_wrapN {n : Nat} (h : n ≤ 16) {p : Int} (hp : p = 2 ^ n) : 0 < p ∧ p ≤ 65536 ∧ wrap64 (2 ^ n) = p := by
  have h1 := pow_le_16 h
  have h2 : (0 : Int) < 2 ^ n := Int.pow_pos (by decide)
  rw [← hp] at h1 h2 ⊢
  rw [wrap64]
  omega
/-- One cell of an owned row, its address known. -/
theorem OwnI.cell {B : Nat} {w : World} {g n cap : Nat} {xs : List Int} (h : OwnI B w (some ⟨g, 0, none⟩) n cap xs) {k : Nat} {x : Int} (hx : xs[k]? = some x) : w.cell? ⟨g, k, none⟩ = some (.int .i64 x) := by
  have hk : k < n := by rw [← h.1]; exact (List.getElem?_eq_some_iff.1 hx).1
  obtain ⟨y, hy, hc⟩ := h.ints.at' hk
  rw [hx] at hy
  simp at hy hc
  rw [hc, hy]
/-- A store into an owned row. -/
theorem OwnI.set {B : Nat} {w : World} {g n cap : Nat} {xs : List Int} (h : OwnI B w (some ⟨g, 0, none⟩) n cap xs) {k : Nat} (hk : k < n) (v : Int) :
    OwnI B (w.setCell ⟨g, k, none⟩ (.int .i64 v)) (some ⟨g, 0, none⟩) n cap (xs.set k v) ∧ w.grownBy (w.setCell ⟨g, k, none⟩ (.int .i64 v)) (rowOf (some ⟨g, 0, none⟩) cap) ∧ w.frozen? ⟨g, k, none⟩ = false := by
  obtain ⟨g', hg', _, _, hr⟩ := h.2.2.some (by omega)
  simp at hg'
  subst hg'
  have hcap : cap ≠ 0 := by
    rcases hr.2 with ⟨hv, h0⟩ | ⟨g2, cap2, cur, hv, _, _, hn', _⟩
    · omega
    · simp only [Value.slice.injEq] at hv
      obtain ⟨_, _, rfl⟩ := hv
      omega
  have hst := World.ownsRow.stored hr k (.int .i64 v)
  rw [← List.map_set] at hst
  exact ⟨⟨by simp [h.1], h.2.1, .inr ⟨g, rfl, hst.1⟩⟩, by simpa [rowOf, hcap] using hst.2, World.ownsRow.frozenAt hr k⟩
/-- A row of another type has turned. -/
theorem TT.otherOwn {B D n cap z m d : Nat} {w w' : World} {e' : TypeId} {ao bo : Option Addr} {hs : List (Option Addr × Nat)} {ls : List Ln} {ys : List Value} (h : TT B w ao n cap hs ls) (k : OwnC e' z D w bo m d ys) (h1 : 47 ≠ e') (h2 : 9 ≠ e') (hg : w.grownBy w' (rowOf bo d)) : TT B w' ao n cap hs ls :=
  ⟨h.len, h.le, h.hlen, h.row.kept hg (fun q e hc he => ownC_apart h.row k h1 q q (by subst e; simp [rowOf, hc]) he rfl),
    fun i l x a b => (h.parts i l x a b).other hg (fun p q hp hq => ownC_apart (h.parts i l x a b).2.2 k h2 p q hp hq), h.apart⟩
theorem twoN_of {α : Type} {xs : List α} (h : xs.length = 2) : ∃ a b, xs = [a, b] := by
  match xs, h with
  | [a, b], _ => exact ⟨a, b, rfl⟩
theorem alloc_drew (w : World) (o : Obj) : (w.alloc o).drew = (w.drewN 1).alloc o := rfl
theorem among_newd (w : World) (b m : Nat) (hc : Cur w b m) (hm : m + 2 ≤ 1000000000000) (xs : List Int) (h1 : 1 ≤ xs.length) (h2 : xs.length ≤ 1000) :
    Calls Tryz.prog 73 #[.pointer (some ⟨b, 0, none⟩), .slice (some ⟨w.heap.size, 0, none⟩) xs.length xs.length] (w.alloc (.cells (xs.map (Value.int .i64)).toArray 3)).drew (DrewM xs b (m + 2) (w.drewN 1)) := by
  rw [alloc_drew]
  exact among_new (w.drewN 1) b m (hc.drewN 1) hm xs h1 h2
/-- Two lists of numbers are drawn. -/
def DrewN (b m : Nat) (w : World) (e : Ending) (w' : World) : Prop := ∃ (xs ys : List Int) (o1 o2 : Option Addr) (n1 n2 c1 c2 : Nat), e = .returned (.tuple #[.slice o1 n1 c1, .slice o2 n2 c2]) ∧ OwnI w.heap.size w' o1 n1 c1 xs ∧ OwnI w.heap.size w' o2 n2 c2 ys ∧ n1 ≤ 50 ∧ n2 ≤ 50 ∧ Cur w' b m ∧ w.grownBy w' (some b)
set_option maxHeartbeats 8000000 in
set_option maxRecDepth 20000 in
theorem numbers_any (w : World) (b m B0 : Nat) (hc : Cur w b m) (hm : m + 10000 ≤ 1000000000000) (ao : Option Addr) (n cap : Nat) (hs : List (Option Addr × Nat)) (ls : List Ln) (hT : TT B0 w ao n cap hs ls) (hbB : b < B0) (hn : n ≤ 40) :
    Calls Tryz.prog 64 #[.pointer (some ⟨b, 0, none⟩), .slice ao n cap] w (DrewN b (m + 2000) w) := by
  have hbl := hc.lt
  go_enter Tryz.func64, Tryz.ntmps64
  go_wp2_with fail
  go_loopw [6, 7] (fun s6 s7 wx => ∃ (k : Nat) (ao2 : Option Addr) (cap2 : Nat) (hs2 : List (Option Addr × Nat)) (rows : List (List Int)), s6 = .slice ao2 k cap2 ∧ s7 = .int .i64 k ∧ k ≤ 2 ∧ RR w.heap.size wx ao2 k cap2 hs2 rows ∧ Hid (∀ r ∈ rows, r.length ≤ 40) ∧ TT B0 wx ao n cap hs ls ∧ Cur wx b (m + 200 * k) ∧ w.grownBy wx (some b)) (fun _ s7 _ => 2 - (intOf s7).toNat)
  case atStart => exact ⟨0, _, _, [], [], rfl, rfl, by omega, RR.nil _ _ _, (fun r hr => by simp at hr), hT, hc.more (by omega) (by omega), World.grownBy.refl _ _⟩
  case round =>
    obtain ⟨k, ao2, cap2, hs2, rows, rfl, rfl, hk, hR, hrl, hT2, hcu, hg⟩ := hrel
    clear hT hc
    obtain ⟨wq, rfl⟩ : ∃ wq : World, wq = wr := ⟨_, rfl⟩
    have hzq := hg.size
    have hbq : b < wq.heap.size := by omega
    by_cases hk2 : (k : Int) < 2
    ·
      -- <A>
      go_wp2_with fail
      refine (laInputs_any _ wq.heap.size _ _ _ _ k hT2.lns (Nat.le_refl _) (by omega)).mono ?_
      rintro e w1 ⟨o1, n1, c1, rfl, hI, hb1⟩
      have hil := inputs_len ls k
      have hz1 := hb1.size
      have hlen := hI.1
      have hn1 : n1 ≤ 40 := by have := hT2.len; omega
      obtain ⟨is, his⟩ : ∃ is, is = inputsL ls k := ⟨_, rfl⟩
      rw [← his] at hI
      have hR1 := hR.below hb1 (Nat.le_refl _)
      have hT1 := hT2.below hb1 (Nat.le_refl _)
      have hc1 := hcu.below hb1 hcu.lt
      have hG1 := gbelow hg hb1
      have HRL := Lib.hid hrl
      clear his hil hlen hR hT2 hcu hg hb1 hrl
      go_wp2_with fail
      go_loopw [8, 19] (fun s8 s19 wx => ∃ (j : Nat) (ao3 : Option Addr) (cap3 : Nat) (zs : List Int), s8 = .slice ao3 j cap3 ∧ s19 = .int .i64 j ∧ j ≤ n1 ∧ OwnI w1.heap.size wx ao3 j cap3 zs ∧ Cur wx b (m + 200 * k + 2 * j) ∧ w1.grownBy wx (some b)) (fun _ s19 _ => n1 - (intOf s19).toNat)
      case atStart => exact ⟨0, _, _, [], rfl, rfl, by omega, OwnI.nil _ _ _, hc1.more (by omega) (by omega), World.grownBy.refl _ _⟩
      case round =>
        obtain ⟨j, ao3, cap3, zs, rfl, rfl, hj, ho, hcu, hg⟩ := hrel
        have hzr := hg.size
        have hIr := hI.other hg (fun p q hp hq => by have := (hI.rowLt p hp).1; cases hq; omega)
        have hrow : ∀ p, rowOf ao3 cap3 = some p → w1.heap.size ≤ p := fun p hp => (ho.rowLt p hp).1
        by_cases hlt : j < n1
        · obtain ⟨b1, of1, x, rfl, hb1, hx, hcx⟩ := hIr.ints.at hlt
          obtain ⟨q, hq⟩ : ∃ q : Nat, mx 0 (mn x 12) = q := Int.eq_ofNat_of_zero_le (clamp12 x).1
          have hq12 : q ≤ 12 := by have := (clamp12 x).2; omega
          obtain ⟨p, hp⟩ : ∃ p : Int, p = 2 ^ q := ⟨_, rfl⟩
          obtain ⟨hp0, hp1, hp2⟩ := pow_wrapN (by omega) hp
          have HP := Lib.hid hp2
          have HQ := Lib.hid hq
          clear hp2 hp hq hx
          go_wp2_with fail
          refine (l1Least_any _ _ _).mono ?_
          rintro e w' ⟨rfl, rfl⟩
          go_wp2_with fail
          refine (l1Most_any _ _ _).mono ?_
          rw [HQ.out]
          rintro e w' ⟨rfl, rfl⟩
          go_wp2_with (rw [HP.out])
          refine (pick_any _ _ _ hcu (by omega) p (by omega) (by omega)).mono ?_
          rintro e w4 ⟨v, hv0, hv1, rfl, hc4, hg4⟩
          have ho4 := ho.other hg4 (fun p l hp hl => by have := hrow p hp; simp at hl; omega)
          have hG4 := gtrans hg hg4
          have hz4 := hG4.size
          clear hcx
          go_wp2_with (at_builtin; refine wpList_append_i rfl _ _ rfl w1.heap.size _ _ _ _ _ rfl (by first | rfl | (simp; rfl)) ho4 (by omega) hz4 ?_; intro ao' cap' w9 hown9 hg9)
          have hc9 := hc4.grown hg9 (fun p hp => by have := hrow p hp; omega)
          have hG9 := gown hG4 hg9 hrow
          go_roundw
          case rel => exact ⟨j + 1, _, _, _, rfl, by go_num, by omega, hown9, hc9.more (by omega) (by omega), hG9⟩
          case measure => simp [intOf] <;> omega
        · obtain rfl : j = n1 := by omega
          have hlz := ho.1
          subst hlz
          have hR3 := hR1.far hg (by omega)
          have hT3 := hT1.far hg hbB
          have hS := hR1.rowsIn
          go_wp2_with (at_builtin; refine wpList_append_new rfl _ _ 98 29 (.slice none 0 0) 1 24 Tryz.underlying98 row_info rfl (by decide) (by decide) rfl w.heap.size _ _ _ _ 1 1 [.slice ao3 zs.length cap3] rfl (by first | rfl | (simp; rfl)) rfl (by simp [Value.oneCell']) hR3.row (by omega) (by omega) ?_; intro ao4 cap4 w4 hown4 hg4)
          have hR4 := hR3.app (S := w1.heap.size) (x0 := (ao3, cap3)) (l0 := zs) ho hS (by omega) (by omega) hown4 hg4
          have hT4 := hT3.otherOwn hR3.row (by decide) (by decide) hg4
          have hrow4 : ∀ p, rowOf ao2 cap2 = some p → w.heap.size ≤ p := fun p hp => (hR3.row.rowLt p hp).1
          have hc4' := hcu.grown hg4 (fun p hp => by have := hrow4 p hp; omega)
          have hG4 := gown (gtrans hG1 hg) hg4 hrow4
          have hrl4 : Hid (∀ r ∈ rows ++ [zs], r.length ≤ 40) := fun r hr => by
            rw [List.mem_append] at hr
            rcases hr with hr | hr
            · exact HRL.out.out r hr
            · simp at hr; subst hr; exact hn1
          go_roundw
          case rel => exact ⟨k + 1, _, _, _, _, rfl, by go_num, by omega, hR4, hrl4, hT4, hc4'.more (by omega) (by omega), hG4⟩
          case measure => simp [intOf] <;> omega
      -- </A>
    · obtain rfl : k = 2 := by omega
      obtain ⟨xs, ys, rfl⟩ := twoN_of hR.len
      obtain ⟨x0, x1, rfl⟩ := twoN_of hR.hlen
      have hlx : xs.length ≤ 40 := hrl.out xs (by simp)
      have hly : ys.length ≤ 40 := hrl.out ys (by simp)
      clear hrl hT2
      obtain ⟨g, l, x, rfl, hBg, hgw, hl, hx, hcl0, -, -, -, -⟩ := hR.at (k := 0) (by omega)
      obtain ⟨g', l1, x1', hgg, -, -, hl1, hx1, hcl1, -, -, -, -⟩ := hR.at (k := 1) (by omega)
      simp at hl hx hl1 hx1 hgg
      subst hl hx hl1 hx1 hgg
      go_upto_region 12 with fail
      go_cut [46] (fun s46 wx => ∃ v : Bool, s46 = .bool v ∧ (v = true → 0 < xs.length) ∧ RR w.heap.size wx (some ⟨g, 0, none⟩) 2 cap2 [x0, x1] [xs, ys] ∧ Cur wx b (m + 402) ∧ w.grownBy wx (some b))
      case first =>
        by_cases h0 : 0 < xs.length
        · go_wp2_with fail
          refine (one_any _ _ _ hcu (by omega) 20 (by omega) (by omega)).mono ?_
          rintro e w2 ⟨v, rfl, hc2, hg2⟩
          have hR2 := hR.far hg2 (by omega)
          have hG2 := gtrans hg hg2
          go_wp2_with fail
          go_meet
          exact ⟨v, rfl, fun _ => h0, hR2, hc2, hG2⟩
        · go_wp2_with fail
          go_meet
          exact ⟨false, rfl, (fun h => by cases h), hR, hcu.more (by omega) (by omega), hg⟩
      case rest =>
        obtain ⟨v, rfl, hv, hR2, hc2, hg2⟩ := hcut
        clear hR hcu hg hcl0 hcl1
        obtain ⟨wp, rfl⟩ : ∃ wp : World, wp = wc := ⟨_, rfl⟩
        have hzp := hg2.size
        go_upto_if 46 with fail
        go_cut [] (fun wx => ∃ xs' : List Int, xs'.length = xs.length ∧ RR w.heap.size wx (some ⟨g, 0, none⟩) 2 cap2 [x0, x1] [xs', ys] ∧ Cur wx b (m + 404) ∧ w.grownBy wx (some b))
        case first =>
          cases v
          · go_wp2_with fail
            go_meet
            exact ⟨xs, rfl, hR2, hc2.more (by omega) (by omega), hg2⟩
          · have h0 := hv rfl
            obtain ⟨xa, xc⟩ := x0
            have hO := hR2.parts 0 xs (xa, xc) rfl rfl
            obtain ⟨gx, rfl, hBx, hgx, -⟩ := hO.2.2.some h0
            obtain ⟨v0, hv0⟩ : ∃ v0, xs[0]? = some v0 := ⟨_, List.getElem?_eq_getElem h0⟩
            obtain ⟨g2, l2, x2, e2, -, -, hl2, hx2, hcl, -, -, -, -⟩ := hR2.at (k := 0) (by omega)
            simp at e2 hl2 hx2
            subst e2 hl2 hx2
            dsimp only at hcl
            have k1 := fun o => cell_alloc_keep (W := wp) hcl o
            have HR := Lib.hid hR2
            have HC := Lib.hid hc2
            have HG := Lib.hid hg2
            have HV0 := Lib.hid hv0
            have hx0 : (0 : Int) < xs.length := by omega
            clear hR2 hc2 hg2 hO hv0
            go_upto_region 13 with fail
            go_region_law
              (first
                | (go_simp; go_at_call 73; refine (among_newd _ b _ HC.out (by omega) [-1, 1024] (by decide) (by decide)).mono ?_; rintro e w3 ⟨u, hu, rfl, hc3, hg3⟩; have hG3 := gtrans (gdrewN (World.grownBy.refl wp (some b)) 1) hg3; have hR3 := RR.far HR.out hG3 (by omega); have hO3 := RR.parts hR3 0 xs (some ⟨gx, 0, none⟩, xc) rfl rfl; have k3 := OwnI.cell hO3 HV0.out; obtain ⟨hs3, hgs3, f3⟩ := OwnI.set hO3 (k := 0) h0 u; obtain ⟨g5, l5, x5, e5, -, -, hl5, hx5, hcl5, -, -, -, -⟩ := hR3.at (k := 0) (by omega); simp at e5 hl5 hx5; subst e5 hl5 hx5; dsimp only at hcl5; try go_wp2_with fail))
            all_goals go_wp2_with fail
            all_goals go_meet
            all_goals
              have hrow3 : ∀ p, rowOf (some (⟨gx, 0, none⟩ : Addr)) xc = some p → w.heap.size ≤ p := fun p hp => (hO3.rowLt p hp).1
              exact ⟨xs.set 0 u, by simp, RR.wrote hR3 (k := 0) (l' := xs.set 0 u) rfl rfl (by simp) (by rw [List.length_set]; exact hs3) hgs3, (hc3.grown hgs3 (fun p hp => by have := hrow3 p hp; omega)).more (by omega) (by omega), gown (gtrans HG.out hG3) hgs3 hrow3⟩
        case rest =>
          obtain ⟨xs', hlx', hR3, hc3, hg3⟩ := hcut
          clear hR2 hc2 hg2
          have hz3 := hg3.size
          go_wp2_with fail
          refine (one_any _ _ _ hc3 (by omega) 20 (by omega) (by omega)).mono ?_
          rintro e w5 ⟨v5, rfl, hc5, hg5⟩
          have hR5 := hR3.far hg5 (by omega)
          have hG5 := gtrans hg3 hg5
          have hz5 := hG5.size
          clear hR3 hc3 hg3 hg5
          cases v5
          · obtain ⟨g2, l2, x2, e2, -, -, hl2, hx2, d0, -, -, -, -⟩ := hR5.at (k := 0) (by omega)
            simp at e2 hl2 hx2
            subst e2 hl2 hx2
            obtain ⟨g2, l2, x2, e2, -, -, hl2, hx2, d1, -, -, -, -⟩ := hR5.at (k := 1) (by omega)
            simp at e2 hl2 hx2
            subst e2 hl2 hx2
            go_wp2_with fail
            go_region
            all_goals
              go_wp2_with fail
              go_ret2
              have hP0 := hR5.parts 0 xs' x0 rfl rfl
              rw [hlx'] at hP0
              exact ⟨xs', ys, _, _, _, _, _, _, rfl, hP0.drewN 1, (hR5.parts 1 ys x1 rfl rfl).drewN 1, by omega, by omega, (hc5.drewN 1).more (by omega) (by omega), gdrewN hG5 1⟩
          · obtain ⟨g2, l2, x2, e2, -, -, hl2, hx2, d1, -, hO1, -, -⟩ := hR5.at (k := 1) (by omega)
            simp at e2 hl2 hx2
            subst e2 hl2 hx2
            have hrow1 : ∀ p, rowOf x1.1 x1.2 = some p → w.heap.size ≤ p := fun p hp => (hO1.rowLt p hp).1
            go_upto_region 16 with (at_builtin; refine wpList_append_i2 rfl _ _ rfl w.heap.size _ _ _ _ _ rfl (by first | rfl | (simp; rfl)) hO1 (by omega) hz5 ?_; intro ao' cap' w7 hown7 hg7 hpl7; obtain ⟨hR7, hgs7, f7, k7⟩ := hR5.put (k := 1) rfl rfl hown7 hg7 hpl7)
            have hc7 := (hc5.grown hg7 (fun p hp => by have := hrow1 p hp; omega)).grown hgs7 (fun p hp => by cases hp; omega)
            have hG7 := gown (gown hG5 hg7 hrow1) hgs7 (fun p hp => by cases hp; omega)
            clear k7 f7 d1 hR5 hc5 hG5
            generalize w7.setCell ⟨g, 1, none⟩ (.slice ao' (ys.length + 1) cap') = w8 at *
            obtain ⟨g2, l2, x2, e2, -, -, hl2, hx2, d0, -, -, -, -⟩ := hR7.at (k := 0) (by omega)
            simp at e2 hl2 hx2
            subst e2 hl2 hx2
            obtain ⟨g2, l2, x2, e2, -, -, hl2, hx2, d1, -, -, -, -⟩ := hR7.at (k := 1) (by omega)
            simp at e2 hl2 hx2
            subst e2 hl2 hx2
            simp only [List.length_append, List.length_cons, List.length_nil] at d1
            go_region
            all_goals
              go_wp2_with fail
              go_ret2
              have hP0 := hR7.parts 0 xs' x0 rfl rfl
              rw [hlx'] at hP0
              have hP1 := hR7.parts 1 (ys ++ [0]) (ao', cap') rfl rfl
              simp only [List.length_append, List.length_cons, List.length_nil] at hP1
              exact ⟨xs', ys ++ [0], _, _, _, _, _, _, rfl, hP0.drewN 1, hP1.drewN 1, by omega, by omega, (hc7.drewN 1).more (by omega) (by omega), gdrewN hG7 1⟩
end Go.Proofs.YtdlddkgmjpmenaaGreatDoor
/-
  Draws of programs: any program.
-/
namespace Go.Proofs.YtdlddkgmjpmenaaGreatDoor
open Go.RowKit
set_option linter.unusedVariables false
set_option linter.unusedSimpArgs false

theorem drewP_stored {b m M g n cap q j : Nat} {w w5 : World} {hs : List (Option Addr × Nat)} {ls : List Ln} {l : Ln} (hT : TT w.heap.size w5 (some ⟨g, 0, none⟩) n cap hs ls) (hl : ls[q]? = some l) (hj : j < 7) (l' : Ln) (v : Value) (hc : ∀ x, lineCells l' x = (lineCells l x).set j v) (hp : l'.parts = l.parts)
    (hn : n ≤ 40) (hok : okE ls) (h1 : l'.name.size ≤ 100) (h2 : l'.op.size ≤ 100) (h3 : l'.parts.length ≤ 100) (hcu : Cur w5 b m) (hm : m ≤ M) (hM : M ≤ 1000000000000) (hG : w.grownBy w5 (some b)) (hBg : w.heap.size ≤ g) (hbl : b < w.heap.size) :
    DrewP b M w (.returned (.slice (some ⟨g, 0, none⟩) n cap)) (w5.setCell ⟨g, q * 7 + j, none⟩ v) :=
  ⟨_, _, _, _, _, rfl, hT.set hl j hj l' v hc hp, hn, okD_set hok.okD h1 h2 h3, (hcu.grown (gset w5 g _ v) (fun p hp => by cases hp; omega)).more hm hM, gown hG (gset w5 g _ v) (fun p hp => by cases hp; exact hBg)⟩
set_option maxHeartbeats 8000000 in
set_option maxRecDepth 20000 in
theorem anyProgram_any (w : World) (b m : Nat) (hc : Cur w b m) (hm : m + 20000 ≤ 1000000000000) :
    Calls Tryz.prog 44 #[.pointer (some ⟨b, 0, none⟩)] w (DrewP b (m + 3000) w) := by
  have hbl := hc.lt
  go_enter Tryz.func44, Tryz.ntmps44
  go_wp2_with fail
  refine (one_any _ _ _ hc (by omega) 30 (by omega) (by omega)).mono ?_
  rintro e w1 ⟨v, rfl, hc1, hg1⟩
  cases v
  rotate_left
  · go_wp2_with fail
    refine (atLimits_any _ _ _ hc1 (by omega)).mono ?_
    rintro e w2 ⟨ls, ao, n, cap, hs, rfl, hT, hn, hok, hc2, hg2⟩
    go_wp2_with fail
    go_ret
    exact ⟨_, _, _, _, _, rfl, hT.up hg1.size, hn, hok, hc2.more (by omega) (by omega), gtrans hg1 hg2⟩
  go_wp2_with fail
  refine (program_any _ _ _ hc1 (by omega)).mono ?_
  rintro e w2 ⟨ls, ao, n, cap, hs, rfl, hT, hn1, hn, hok, hc2, hg2⟩
  have hG2 := gtrans hg1 hg2
  have HOK := Lib.hid hok
  have hT2 := hT.up hg1.size
  clear hc1 hg1 hg2 hc hT
  go_wp2_with fail
  refine (pick_any _ _ _ hc2 (by omega) n (by omega) (by omega)).mono ?_
  rintro e w3 ⟨q, hq0, hq1, rfl, hc3, hg3⟩
  obtain ⟨q, rfl⟩ := Int.eq_ofNat_of_zero_le hq0
  have hqn : q < n := by omega
  obtain ⟨l, hl⟩ := getL_at (i := q) hT2.len hqn
  obtain ⟨ok1, ok2, ok3⟩ := hok l (List.mem_of_getElem? hl)
  have hT3 := hT2.far hg3 hbl
  have hG3 := gtrans hG2 hg3
  obtain ⟨g, x, rfl, -, hBg, -, -, -, -⟩ := hT3.at hl
  clear hT2 hG2 hg3 hc2 hok
  go_wp2_with fail
  refine (pick_any _ _ _ hc3 (by omega) 30 (by omega) (by omega)).mono ?_
  rintro e w4 ⟨r, hr0, hr1, rfl, hc4, hg4⟩
  have hT4 := hT3.far hg4 hbl
  have hG4 := gtrans hG3 hg4
  clear hT3 hG3 hg4 hc3
  by_cases q0 : r = 0
  · subst q0
    go_wp2_with fail
    refine (pick_any _ _ _ hc4 (by omega) 8 (by omega) (by omega)).mono ?_
    rintro e w5 ⟨v, hv0, hv1, rfl, hc5, hg5⟩
    have hT5 := hT4.far hg5 hbl
    have hG5 := gtrans hG4 hg5
    obtain ⟨g', x', hgg, -, -, -, -, hcl, hfz⟩ := hT5.at hl
    cases hgg
    have k0 := hcl 0 _ rfl
    have f0 := hfz (q * 7)
    simp only [Nat.add_zero] at k0
    go_wp2_with fail
    go_ret
    exact drewP_stored (j := 0) hT5 hl (by decide) ⟨v, l.name, l.op, l.parts, l.party, l.width, l.value⟩ (.int .i64 v) (fun x => rfl) rfl hn HOK.out (by show l.name.size ≤ 100; omega) (by show l.op.size ≤ 100; omega) (by show l.parts.length ≤ 100; omega) hc5 (by omega) (by omega) hG5 hBg hbl
  by_cases q1 : r = 1
  · subst q1
    go_wp2_with fail
    refine (of_new _ b _ hc4 (by omega) [⟨#[120]⟩, ⟨#[]⟩, ⟨#[88]⟩, ⟨#[97, 98, 99, 100, 101, 102]⟩, ⟨#[97, 98, 99, 100, 101, 102, 103]⟩] (by decide) (by decide) 7 (by decide)).mono ?_
    rintro e w5 ⟨v, rfl, hv, hc5, hg5⟩
    have hT5 := hT4.far hg5 hbl
    have hG5 := gtrans hG4 hg5
    obtain ⟨g', x', hgg, -, -, -, -, hcl, hfz⟩ := hT5.at hl
    cases hgg
    have k0 := hcl 1 _ rfl
    have f0 := hfz (q * 7 + 1)
    go_wp2_with fail
    go_ret
    exact drewP_stored (j := 1) hT5 hl (by decide) ⟨l.kind, v, l.op, l.parts, l.party, l.width, l.value⟩ (.string v) (fun x => rfl) rfl hn HOK.out (by show v.size ≤ 100; omega) (by show l.op.size ≤ 100; omega) (by show l.parts.length ≤ 100; omega) hc5 (by omega) (by omega) hG5 hBg hbl
  by_cases q2 : r = 2
  · subst q2
    go_wp2_with fail
    refine (among_new _ b _ hc4 (by omega) [0, 10, 11] (by decide) (by decide)).mono ?_
    rintro e w5 ⟨v, hv, rfl, hc5, hg5⟩
    have hT5 := hT4.far hg5 hbl
    have hG5 := gtrans hG4 hg5
    obtain ⟨g', x', hgg, -, -, -, -, hcl, hfz⟩ := hT5.at hl
    cases hgg
    have k0 := hcl 5 _ rfl
    have f0 := hfz (q * 7 + 5)
    go_wp2_with fail
    go_ret
    exact drewP_stored (j := 5) hT5 hl (by decide) ⟨l.kind, l.name, l.op, l.parts, l.party, v, l.value⟩ (.int .i64 v) (fun x => rfl) rfl hn HOK.out (by show l.name.size ≤ 100; omega) (by show l.op.size ≤ 100; omega) (by show l.parts.length ≤ 100; omega) hc5 (by omega) (by omega) hG5 hBg hbl
  by_cases q3 : r = 3
  · subst q3
    go_wp2_with fail
    refine (among_new _ b _ hc4 (by omega) [-1, 1, 1024] (by decide) (by decide)).mono ?_
    rintro e w5 ⟨v, hv, rfl, hc5, hg5⟩
    have hT5 := hT4.far hg5 hbl
    have hG5 := gtrans hG4 hg5
    obtain ⟨g', x', hgg, -, -, -, -, hcl, hfz⟩ := hT5.at hl
    cases hgg
    have k0 := hcl 6 _ rfl
    have f0 := hfz (q * 7 + 6)
    go_wp2_with fail
    go_ret
    exact drewP_stored (j := 6) hT5 hl (by decide) ⟨l.kind, l.name, l.op, l.parts, l.party, l.width, v⟩ (.int .i64 v) (fun x => rfl) rfl hn HOK.out (by show l.name.size ≤ 100; omega) (by show l.op.size ≤ 100; omega) (by show l.parts.length ≤ 100; omega) hc5 (by omega) (by omega) hG5 hBg hbl
  by_cases q4 : r = 4
  · subst q4
    obtain ⟨g', x', hgg, hx', -, -, -, hcl, -⟩ := hT4.at hl
    cases hgg
    have k0 := hcl 3 _ rfl
    have hps := hT4.parts q l x' hl hx'
    have hS := hT4.rowsS (Nat.le_refl _)
    go_wp2_with fail
    refine (l1OwnS_any _ w4.heap.size _ _ _ _ hps.strs (Nat.le_refl _) (by omega)).mono ?_
    rintro e w5 ⟨o5, n5, c5, rfl, hO5, hb5⟩
    have hl5 := hO5.1
    subst hl5
    have hT5 := hT4.below hb5 (Nat.le_refl _)
    have hc5' := hc4.below hb5 hc4.lt
    have hG5 := gbelow hG4 hb5
    have hz5 := hb5.size
    have hz4 := hG4.size
    obtain ⟨W6, hW6⟩ : ∃ W6, W6 = w5.alloc (.cells #[.string ⟨#[120]⟩] 9) := ⟨_, rfl⟩
    have hb6 : Below w5.heap.size w5 W6 := by rw [hW6]; exact (Below.refl _ _).alloc (Nat.le_refl _) _
    have hx6 : Strs W6 W6.heap.size (some ⟨w5.heap.size, 0, none⟩) 1 [⟨#[120]⟩] := by rw [hW6]; exact (own_str_at (S := w5.heap.size) (heap_alloc_new w5 _) (Nat.le_refl _)).strs
    have HW6 := Lib.hid hW6
    clear hW6 k0 hcl
    have hO6 := hO5.below hb6 (Nat.le_refl _)
    have hz6 := hb6.size
    have hrow : ∀ p, rowOf o5 c5 = some p → w4.heap.size ≤ p := fun p hp => (hO6.rowLt p hp).1
    obtain ⟨g', x', hgg, hx', -, -, -, hcl, hfz⟩ := (hT5.below hb6 (Nat.le_refl _)).at hl
    cases hgg
    have k0 := hcl 3 _ rfl
    have f0 := hfz (q * 7 + 3)
    go_wp2_with (first | rw [← HW6.out] | (at_builtin; refine wpList_append_ss rfl _ _ rfl w4.heap.size _ _ _ _ _ _ _ _ _ rfl rfl hO6 hx6 (by omega) (by omega) ?_; intro ao' cap' w7 hown7 hg7; clear k0 f0 hcl hfz; have hT7 := hT4.farN (hT5.below hb6 (Nat.le_refl _)) hg7 hrow; obtain ⟨g', x', hgg, hx', -, -, -, hcl, hfz⟩ := hT7.at hl; cases hgg; have k0 := hcl 3 _ rfl; have f0 := hfz (q * 7 + 3)))
    go_ret
    have hlen : (l.parts ++ [(⟨#[120]⟩ : ByteArray)]).length = l.parts.length + 1 := by simp
    have hTP := TT.setP (S := w4.heap.size) hT7 hl (po := ao') (pc := cap') (ps := l.parts ++ [⟨#[120]⟩]) (by rw [hlen]; exact hown7) hS hz4
    rw [hlen] at hTP
    have hc7 := (hc5'.below hb6 hc5'.lt).grown hg7 (fun p hp => by have := hrow p hp; omega)
    have hG7 := gown (gbelow hG5 hb6) hg7 (fun p hp => by have := hrow p hp; omega)
    exact ⟨_, _, _, _, _, rfl, hTP, hn, okD_set HOK.out.okD (by show l.name.size ≤ 100; omega) (by show l.op.size ≤ 100; omega) (by show (l.parts ++ [(⟨#[120]⟩ : ByteArray)]).length ≤ 100; rw [hlen]; omega), (hc7.grown (gset w7 g _ _) (fun p hp => by cases hp; omega)).more (by omega) (by omega), gown hG7 (gset w7 g _ _) (fun p hp => by cases hp; exact hBg)⟩
  by_cases q5 : r = 5
  · subst q5
    go_wp2_with fail
    refine (of_new _ b _ hc4 (by omega) [⟨#[43]⟩, ⟨#[47]⟩, ⟨#[42]⟩] (by decide) (by decide) 4 (by decide)).mono ?_
    rintro e w5 ⟨v, rfl, hv, hc5, hg5⟩
    have hT5 := hT4.far hg5 hbl
    have hG5 := gtrans hG4 hg5
    obtain ⟨g', x', hgg, -, -, -, -, hcl, hfz⟩ := hT5.at hl
    cases hgg
    have k0 := hcl 2 _ rfl
    have f0 := hfz (q * 7 + 2)
    go_wp2_with fail
    go_ret
    exact drewP_stored (j := 2) hT5 hl (by decide) ⟨l.kind, l.name, v, l.parts, l.party, l.width, l.value⟩ (.string v) (fun x => rfl) rfl hn HOK.out (by show l.name.size ≤ 100; omega) (by show v.size ≤ 100; omega) (by show l.parts.length ≤ 100; omega) hc5 (by omega) (by omega) hG5 hBg hbl
  · go_wp2_with fail
    go_ret
    exact ⟨_, _, _, _, _, rfl, hT4, hn, HOK.out.okD, hc4.more (by omega) (by omega), hG4⟩
end Go.Proofs.YtdlddkgmjpmenaaGreatDoor
/-
  Draws of programs: what the laws draw.
-/
namespace Go.Proofs.YtdlddkgmjpmenaaGreatDoor
open Go.RowKit
set_option linter.unusedVariables false
set_option linter.unusedSimpArgs false

/-- A program is handed out. -/
def RetLs (w : World) (e : Ending) (w' : World) : Prop := ∃ (ls : List Ln) (ao : Option Addr) (n cap : Nat), e = .returned (.slice ao n cap) ∧ Lns w' w'.heap.size ao n ls ∧ n ≤ cap ∧ n ≤ 40 ∧ okD ls ∧ Below w.heap.size w w'
/-- A program and a party. -/
def RetLsP (w : World) (e : Ending) (w' : World) : Prop := ∃ (ls : List Ln) (ao : Option Addr) (n cap : Nat) (p : Int), e = .returned (.tuple #[.slice ao n cap, .int .i64 p]) ∧ Lns w' w'.heap.size ao n ls ∧ n ≤ cap ∧ n ≤ 40 ∧ okD ls ∧ Below w.heap.size w w'
/-- A program and numbers for its inputs. -/
def RetLsN (w : World) (e : Ending) (w' : World) : Prop := ∃ (ls : List Ln) (ao : Option Addr) (n cap : Nat) (xs ys : List Int) (o1 o2 : Option Addr) (n1 n2 c1 c2 : Nat), e = .returned (.tuple #[.slice ao n cap, .slice o1 n1 c1, .slice o2 n2 c2]) ∧ Lns w' w'.heap.size ao n ls ∧ n ≤ cap ∧ n ≤ 40 ∧ okD ls ∧ Ints w' w'.heap.size o1 n1 xs ∧ Ints w' w'.heap.size o2 n2 ys ∧ n1 ≤ 50 ∧ n2 ≤ 50 ∧ Below w.heap.size w w'
theorem DrawValuesIn_any (w : World) (ao : Option Addr) (n cap : Nat) (bs : List Int) (h : Bytes w w.heap.size ao n bs) :
    Calls Tryz.prog 34 #[.slice ao n cap] w (RetLsN w) := by
  obtain ⟨W, hW, hc, hb, hlt⟩ := cur_new w ao n cap bs h
  have HW := Lib.hid hW
  clear hW
  go_enter Tryz.func34, Tryz.ntmps34
  go_wp2_with (rw [← HW.out])
  refine (anyProgram_any _ _ _ hc (by omega)).mono ?_
  rintro e w2 ⟨ls, bo, k, c2, hs, rfl, hT, hk, hok, hc2, hg⟩
  go_wp2_with fail
  refine (numbers_any _ _ _ W.heap.size hc2 (by omega) _ _ _ _ _ hT hlt hk).mono ?_
  rintro e w3 ⟨xs, ys, o1, o2, n1, n2, c1, c2', rfl, hx, hy, hn1, hn2, hc3, hg3⟩
  have hT3 := hT.far hg3 hlt
  go_wp2_with fail
  go_ret3
  exact ⟨ls, _, _, _, xs, ys, _, _, _, _, _, _, rfl, hT3.lns, ownC_capLe hT3.row, hk, hok, hx.ints, hy.ints, hn1, hn2, below_cur hb (gtrans hg hg3)⟩
end Go.Proofs.YtdlddkgmjpmenaaGreatDoor
