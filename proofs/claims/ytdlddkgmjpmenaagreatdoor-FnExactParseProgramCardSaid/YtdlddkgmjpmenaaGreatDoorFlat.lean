/-
  Slices whose elements are structs of ints: their cells, one after the other, are a list of ints.
-/
import Derived.Test.YtdlddkgmjpmenaaGreatDoorBase
import Derived.Deep.MidRow
import Derived.Deep.SlicePairs
import Derived.Deep.Strs
import Derived.StillTailTactics
namespace Go.Proofs.YtdlddkgmjpmenaaGreatDoor
open Go.RowKit

/-- A slice of n elements of z ints each reads as xs. -/
def Flat (z : Nat) (w : World) (B : Nat) (ao : Option Addr) (n : Nat) (xs : List Int) : Prop := xs.length = n * z ∧ n ≤ 1000000000 ∧ CellsAt w B ao (xs.map (Value.int .i64))
/-- The same of an argument of a law, whose length is not bounded yet. -/
def FlatArg (z : Nat) (w : World) (ao : Option Addr) (n : Nat) (xs : List Int) : Prop := xs.length = n * z ∧ n ≤ maxLen ∧ CellsAt w w.heap.size ao (xs.map (Value.int .i64))
/-- A slice that the call owns. -/
def OwnF (z : Nat) (e : TypeId) (B : Nat) (w : World) (ao : Option Addr) (n cap : Nat) (xs : List Int) : Prop := xs.length = n * z ∧ n ≤ 1000000000 ∧ OwnC e z B w ao n cap (xs.map (Value.int .i64))
section
variable {z : Nat} {w w' : World} {B C : Nat} {ao : Option Addr} {n cap : Nat} {xs : List Int} {e : TypeId}
theorem FlatArg.flat (h : FlatArg z w ao n xs) (hn : n ≤ 1048576) : Flat z w w.heap.size ao n xs := ⟨h.1, by omega, h.2.2⟩
theorem Flat.below (h : Flat z w B ao n xs) (hb : Below C w w') (hC : B ≤ C) : Flat z w' B ao n xs := ⟨h.1, h.2.1, h.2.2.below hb hC⟩
theorem Flat.up (h : Flat z w B ao n xs) (hC : B ≤ C) : Flat z w C ao n xs := ⟨h.1, h.2.1, h.2.2.up hC⟩
theorem Flat.le (h : Flat z w B ao n xs) : n ≤ 1000000000 := h.2.1
theorem Flat.drewN (h : Flat z w B ao n xs) (k : Nat) : Flat z (w.drewN k) B ao n xs := h
theorem OwnF.below (h : OwnF z e B w ao n cap xs) (hb : Below C w w') (hC : w.heap.size ≤ C) : OwnF z e B w' ao n cap xs := ⟨h.1, h.2.1, h.2.2.below hb hC⟩
theorem OwnF.flat (h : OwnF z e B w ao n cap xs) : Flat z w w.heap.size ao n xs := ⟨h.1, h.2.1, h.2.2.cellsAt⟩
theorem OwnF.up (h : OwnF z e B w ao n cap xs) (hC : C ≤ B) : OwnF z e C w ao n cap xs := ⟨h.1, h.2.1, h.2.2.up hC⟩
theorem OwnF.le (h : OwnF z e B w ao n cap xs) : n ≤ 1000000000 := h.2.1
theorem OwnF.nil (B : Nat) (w : World) (ao : Option Addr) : OwnF z e B w ao 0 0 [] := ⟨by simp, by decide, OwnC.nil _ _ _ _ _⟩
theorem OwnF.rowLt (h : OwnF z e B w ao n cap xs) : ∀ k, rowOf ao cap = .some k → B ≤ k ∧ k < w.heap.size := h.2.2.rowLt
theorem OwnF.other {row : Option Nat} (h : OwnF z e B w ao n cap xs) (hg : w.grownBy w' row) (hne : ∀ k l, rowOf ao cap = .some k → row = .some l → k ≠ l) : OwnF z e B w' ao n cap xs := by
  refine ⟨h.1, h.2.1, h.2.2.kept hg fun g hao hc he => ?_⟩
  subst hao
  exact hne g g (by simp [rowOf, hc]) he rfl
/-- The cells of element k. -/
theorem Flat.at (h : Flat z w B ao n xs) (hz : 0 < z) {k : Nat} (hk : k < n) :
    ∃ b off, ao = some ⟨b, off, none⟩ ∧ b < B ∧ ∀ j, j < z → ∃ x, xs[k * z + j]? = some x ∧ w.cell? ⟨b, off + (k * z + j), none⟩ = some (.int .i64 x) := by
  obtain ⟨hl, _, h⟩ := h
  have hlt : ∀ j, j < z → k * z + j < xs.length := fun j hj => by
    have : (k + 1) * z ≤ n * z := Nat.mul_le_mul_right z hk
    rw [Nat.add_mul] at this
    omega
  rcases h with h | ⟨b, off, rfl, hb, h⟩
  · exfalso
    simp at h
    have := hlt 0 hz
    simp [h] at this
  · exact ⟨b, off, rfl, hb, fun j hj => ⟨xs[k * z + j]'(hlt j hj), List.getElem?_eq_getElem _, h _ _ (by simp [hlt j hj])⟩⟩
/-- One cell of an owned row. -/
theorem OwnF.set {g : Nat} (h : OwnF z e B w (some ⟨g, 0, none⟩) n cap xs) {k : Nat} (hk : k < xs.length) (v : Int) :
    OwnF z e B (w.setCell ⟨g, k, none⟩ (.int .i64 v)) (some ⟨g, 0, none⟩) n cap (xs.set k v) ∧ w.grownBy (w.setCell ⟨g, k, none⟩ (.int .i64 v)) (rowOf (some ⟨g, 0, none⟩) cap) ∧ w.frozen? ⟨g, k, none⟩ = false ∧ ∃ u, w.cell? ⟨g, k, none⟩ = some u := by
  have hn : 0 < n := by
    rcases Nat.eq_zero_or_pos n with h0 | h0
    · have := h.1; rw [h0] at this; simp at this; subst this; simp at hk
    · exact h0
  obtain ⟨g', hg', _, _, hr⟩ := h.2.2.some hn
  simp at hg'
  subst hg'
  have hcap : cap ≠ 0 := by
    rcases hr.2 with ⟨hv, h0⟩ | ⟨g2, cap2, cur, hv, _, _, hn', _⟩
    · omega
    · simp only [Value.slice.injEq] at hv
      obtain ⟨_, _, rfl⟩ := hv
      omega
  have hst := World.ownsRow.stored hr k (.int .i64 v)
  rw [← List.map_set] at hst
  refine ⟨⟨by simp [h.1], h.2.1, .inr ⟨g, rfl, hst.1⟩⟩, by simpa [rowOf, hcap] using hst.2, World.ownsRow.frozenAt hr k, ?_⟩
  rw [World.ownsRow.cellAt hr k (by rw [← h.1]; exact hk)]
  exact ⟨_, List.getElem?_eq_getElem (by simpa using hk)⟩
/-- An owned row that is not empty: its block. -/
theorem OwnF.some (h : OwnF z e B w ao n cap xs) (hn : 0 < n) : ∃ g, ao = some ⟨g, 0, none⟩ ∧ B ≤ g ∧ g < w.heap.size := by
  obtain ⟨g, h1, h2, h3, _⟩ := h.2.2.some hn
  exact ⟨g, h1, h2, h3⟩
theorem below_setF {w0 : World} (hb : Below B w0 w) (hown : OwnF z e B w ao n cap xs) (hg : w.grownBy w' (rowOf ao cap)) (hB : B ≤ w.heap.size) : Below B w0 w' :=
  hb.grown hg hB fun k hk => (hown.rowLt k hk).1
/-- 'append(out, x)' of one element, behind the block that bears it. -/
theorem wpList_append_f {P : Program} {ops : Array Oper} {rest : List Oper} {o : Oper} {a : Act} {Q : Exit → Act → World → Prop} (hgd : o.guard = none) (s x : Operand) (t e : TypeId) (zv : Value) (z bytes : Nat)
    (ht : P.underlying t = some (.slice e)) (hi : (P.info? e).map (fun i => (i.zero, i.size, i.bytes)) = some (some zv, z, bytes)) (hzs : zv.cells.size = z) (hsz : 0 < z) (hby : bytes ≤ 128)
    (ho : o.op = .call { callee := .builtin .append, args := #[s, x], argTypes := #[t, t] })
    (B : Nat) (ao : Option Addr) (n cap : Nat) (xs us : List Int) (hs : a.eval s = .slice ao n cap) (hx : a.eval x = .slice (some ⟨w.heap.size, 0, none⟩) 1 1) (hz : us.length = z)
    (hown : OwnF z e B w ao n cap xs) (hn : n < 999999990) (hB : B ≤ w.heap.size)
    (h : ∀ ao' cap' w', OwnF z e B w' ao' (n + 1) cap' (xs ++ us) → w.grownBy w' (rowOf ao cap) → wpList P ops Q rest (a.put o.dst (.slice ao' (n + 1) cap')) w') :
    wpList P ops Q (o :: rest) a (w.alloc (.cells (us.map (Value.int .i64)).toArray e)) :=
  wpList_append_new hgd s x t e zv z bytes ht hi hzs hsz hby ho B ao n cap (xs.map (Value.int .i64)) 1 1 (us.map (Value.int .i64)) hs hx (by rw [List.length_map, hz, Nat.one_mul]) (ints_oneCell _ _) hown.2.2 (by omega) hB
    fun ao' cap' w' h1 h2 => h ao' cap' w' ⟨by rw [List.length_append, hown.1, hz, Nat.add_mul, Nat.one_mul], by omega, by simpa using h1⟩ h2
end
/-- What a call that makes such a slice hands back. -/
def RetF (z : Nat) (e : TypeId) (xs : List Int) (w : World) (r : Ending) (w' : World) : Prop := ∃ ao n cap, r = .returned (.slice ao n cap) ∧ OwnF z e w.heap.size w' ao n cap xs ∧ Below w.heap.size w w'
/-- The same with a bool beside it. -/
def RetFB (z : Nat) (e : TypeId) (rs : List Int × Bool) (w : World) (r : Ending) (w' : World) : Prop := ∃ ao n cap, r = .returned (.tuple #[.slice ao n cap, .bool rs.2]) ∧ OwnF z e w.heap.size w' ao n cap rs.1 ∧ Below w.heap.size w w'
/-! Steps of copying and marking element by element -/
theorem len_mul {n z k j : Nat} (hk : k < n) (hj : j < z) : k * z + j < n * z := by
  have : (k + 1) * z ≤ n * z := Nat.mul_le_mul_right z hk
  rw [Nat.add_mul] at this
  omega
theorem take_set {α : Type} {xs ys : List α} {k : Nat} {x : α} (hl : ys.length = xs.length) (hx : xs[k]? = some x) : (xs.take k ++ ys.drop k).set k x = xs.take (k + 1) ++ ys.drop (k + 1) := by
  have hk : k < xs.length := (List.getElem?_eq_some_iff.1 hx).1
  have hkl : (xs.take k).length = k := by simp; omega
  rw [List.set_append_right _ _ (by omega), hkl, Nat.sub_self, List.take_add_one, hx, List.drop_eq_getElem_cons (by omega), List.set_cons_zero]
  simp
theorem gtrans0 {a b c : World} {r : Option Nat} (h : a.grownBy b r) (k : b.grownBy c r) : a.grownBy c r :=
  ⟨k.os.trans h.os, k.tape.trans h.tape, k.output.trans h.output, Nat.le_trans h.size k.size, fun i hi hne => (k.block i (Nat.lt_of_lt_of_le hi h.size) hne).trans (h.block i hi hne)⟩
theorem map_get {xs : List Int} {k : Nat} {x : Int} (hx : xs[k]? = some x) : (xs.map (Value.int .i64))[k]? = some (.int .i64 x) := by simp [hx]
/-- The cells of element k of an owned row may be written. -/
theorem there_of_row {w : World} {B : Nat} {e : TypeId} {z g n cap : Nat} {cs : List Value} (hr : w.ownsRow B e z (.slice (some ⟨g, 0, none⟩) n cap) n cs) {k : Nat} (hk : k < n) : w.there g (k * z) z := fun j hj => by
  have hlt := len_mul hk hj
  refine ⟨?_, World.ownsRow.frozenAt hr _⟩
  rw [World.ownsRow.cellAt hr (k * z + j) hlt, List.getElem?_eq_getElem (by rw [hr.1]; exact hlt)]
  rfl
def szF (left n : Int) : Int := if left - n < 0 then -1 else left - n
theorem split_len {xs ys : List Int} {k m : Nat} (h1 : xs.length = m) (h2 : ys.length = m) (hk : k ≤ m) : (xs.take k ++ ys.drop k).length = m := by
  simp; omega
/-- What opening a slice of structs hands over, as a list. -/
theorem flat_of_open {z : Nat} {W : World} {x : Addr} {len : Nat} (hm : len ≤ maxLen) (f : Nat → Int) (hcell : ∀ i, i < len * z → W.cell? (x.add i) = some (.int .i64 (f i))) : FlatArg z W (some x) len ((List.range (len * z)).map f) := by
  refine ⟨by simp, hm, ?_⟩
  rcases Nat.eq_zero_or_pos (len * z) with h0 | hp
  · left; rw [h0]; rfl
  · have h0 := hcell 0 hp
    obtain ⟨b, off, spot⟩ := x
    have hspot : spot = none := by simpa [Addr.add] using World.cell?_spot h0
    subst hspot
    have hlt : b < W.heap.size := by
      have := World.block_lt_of_cell? W _ h0
      rw [Addr.add_lit] at this
      exact this
    refine .inr ⟨b, off, rfl, hlt, fun j u hu => ?_⟩
    have hj : j < len * z := by
      have := (List.getElem?_eq_some_iff.1 hu).1
      simpa using this
    have hc := hcell j hj
    rw [Addr.add_lit] at hc
    rw [hc, ← hu]
    simp [hj]
theorem flat_nil {z : Nat} (W : World) : FlatArg z W none 0 [] := ⟨by simp, Nat.zero_le _, .inl rfl⟩
end Go.Proofs.YtdlddkgmjpmenaaGreatDoor
