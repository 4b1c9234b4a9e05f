/-
  Networks applied to lists. (first part)
-/
import Derived.Test.YtilkgidilhgjeaaNet3
import Derived.Test.YtilkgidilhgjeaaAll
import Derived.Test.YtilkgidilhgjeaaDigest
import Derived.Test.YtilkgidilhgjeaaWord
namespace Go.Proofs.Ytilkgidilhgjeaa
open Go.RowKit

/-- A slice of bools that the call owns. -/
def OwnB (B : Nat) (w : World) (ao : Option Addr) (n cap : Nat) (bs : List Bool) : Prop := bs.length = n ∧ n ≤ 1000000000 ∧ OwnC 4 1 B w ao n cap (bs.map Value.bool)
section
variable {w w' : World} {B C : Nat} {ao : Option Addr} {n cap g : Nat} {bs : List Bool}
theorem OwnB.below (h : OwnB B w ao n cap bs) (hb : Below C w w') (hC : w.heap.size ≤ C) : OwnB B w' ao n cap bs := ⟨h.1, h.2.1, h.2.2.below hb hC⟩
theorem OwnB.up (h : OwnB B w ao n cap bs) (hC : C ≤ B) : OwnB C w ao n cap bs := ⟨h.1, h.2.1, h.2.2.up hC⟩
theorem OwnB.rowLt (h : OwnB B w ao n cap bs) : ∀ k, rowOf ao cap = .some k → B ≤ k ∧ k < w.heap.size := h.2.2.rowLt
theorem OwnB.other {row : Option Nat} (h : OwnB B w ao n cap bs) (hg : w.grownBy w' row) (hne : ∀ k l, rowOf ao cap = .some k → row = .some l → k ≠ l) : OwnB B w' ao n cap bs := by
  refine ⟨h.1, h.2.1, h.2.2.kept hg fun g hao hc he => ?_⟩
  subst hao
  exact hne g g (by simp [rowOf, hc]) he rfl
theorem OwnB.blk (h : OwnB B w ao n cap bs) (hn : 0 < n) : ∃ g, ao = some ⟨g, 0, none⟩ ∧ B ≤ g ∧ g < w.heap.size := by
  obtain ⟨g, h1, h2, h3, _⟩ := h.2.2.some hn
  exact ⟨g, h1, h2, h3⟩
theorem OwnB.set (h : OwnB B w (some ⟨g, 0, none⟩) n cap bs) {k : Nat} (hk : k < n) (v : Bool) :
    OwnB B (w.setCell ⟨g, k, none⟩ (.bool v)) (some ⟨g, 0, none⟩) n cap (bs.set k v) ∧ w.grownBy (w.setCell ⟨g, k, none⟩ (.bool v)) (rowOf (some ⟨g, 0, none⟩) cap) ∧ w.frozen? ⟨g, k, none⟩ = false ∧ w.cell? ⟨g, k, none⟩ = some (.bool (bs.getD k false)) := by
  obtain ⟨g', hg', _, _, hr⟩ := h.2.2.some (by omega)
  simp at hg'
  subst hg'
  have hcap : cap ≠ 0 := by
    rcases hr.2 with ⟨hv, h0⟩ | ⟨g2, cap2, cur, hv, _, _, hn', _⟩
    · omega
    · simp only [Value.slice.injEq] at hv
      obtain ⟨_, _, rfl⟩ := hv
      omega
  have hst := World.ownsRow.stored hr k (.bool v)
  rw [← List.map_set] at hst
  refine ⟨⟨by simp [h.1], h.2.1, .inr ⟨g, rfl, hst.1⟩⟩, by simpa [rowOf, hcap] using hst.2, World.ownsRow.frozenAt hr k, ?_⟩
  rw [World.ownsRow.cellAt hr k (by omega)]
  have : k < bs.length := by rw [h.1]; exact hk
  simp [List.getD, this]
end

def getI (o : List Int) (i : Int) : Int := o.getD i.toNat 0
def exch (o : List Int) (s : Int × Int) : List Int := if getI o s.2 < getI o s.1 then (o.set s.1.toNat (getI o s.2)).set s.2.toNat (getI o s.1) else o
def did (o : List Int) (s : Int × Int) : Bool := decide (getI o s.2 < getI o s.1)
theorem exch_length (o : List Int) (s : Int × Int) : (exch o s).length = o.length := by unfold exch; split <;> simp
theorem foldl_length (l : List (Int × Int)) : ∀ o : List Int, (l.foldl exch o).length = o.length := by
  induction l with
  | nil => intro o; rfl
  | cons s l ih => intro o; rw [List.foldl_cons, ih, exch_length]
def didL : List (Int × Int) → List Int → List Bool
  | [], _ => []
  | s :: r, o => did o s :: didL r (exch o s)
theorem didL_length : ∀ (l : List (Int × Int)) (o : List Int), (didL l o).length = l.length
  | [], _ => rfl
  | s :: r, o => by simp [didL, didL_length r]
theorem didL_get : ∀ (l : List (Int × Int)) (o : List Int) (k : Nat) (s : Int × Int), l[k]? = some s → (didL l o)[k]? = some (did ((l.take k).foldl exch o) s)
  | [], _, _, _, h => by simp at h
  | t :: r, o, 0, s, h => by simp at h; subst h; rfl
  | t :: r, o, k + 1, s, h => by
    simp only [List.getElem?_cons_succ] at h
    simp only [didL, List.getElem?_cons_succ, List.take_succ_cons, List.foldl_cons]
    exact didL_get r (exch o t) k s h
theorem fold_step {l : List (Int × Int)} {k : Nat} {s : Int × Int} (h : l[k]? = some s) (o : List Int) : (l.take (k + 1)).foldl exch o = exch ((l.take k).foldl exch o) s := by
  rw [List.take_add_one, h]; simp [List.foldl_append]

theorem good_at {n : Int} {l : List (Int × Int)} (h : l.any (bad n) = false) {k : Nat} {x y : Int} (hx : l[k]? = some (x, y)) : 0 ≤ x ∧ x < y ∧ y < n := by
  have := (List.any_eq_false.1 h) (x, y) (List.mem_of_getElem? hx)
  simp [bad] at this
  omega
theorem getI_get {o : List Int} {i : Nat} {v : Int} (h : o[i]? = some v) : getI o (i : Int) = v := by simp [getI, List.getD, h]
theorem did_set {l : List (Int × Int)} {o : List Int} {m : Nat} {k : Nat} {v : Bool} (hl : (didL l o).length = m) (hk : k < m) (hv : (didL l o)[k]? = some v) :
    ((didL l o).take k ++ List.replicate (m - k) false).set k v = (didL l o).take (k + 1) ++ List.replicate (m - (k + 1)) false := by
  have hkl : ((didL l o).take k).length = k := by simp; omega
  rw [List.set_append_right _ _ (by omega), hkl, Nat.sub_self, List.take_add_one, hv, show m - k = (m - (k + 1)) + 1 from by omega, List.replicate_succ]
  simp
theorem bool_info : (Try.prog.info? 4).map (fun i => (i.zero, i.size, i.bytes)) = some (some (.bool false), 1, 1) := by kernel_rfl
/-- What one step does to lists whose places are known. -/
theorem exch_yes {o : List Int} {a b : Nat} {u v : Int} (hu : o[a]? = some u) (hv : o[b]? = some v) (h : v < u) : exch o ((a : Int), (b : Int)) = (o.set a v).set b u := by
  simp only [exch, getI_get hu, getI_get hv, if_pos h, Int.toNat_natCast]
theorem exch_no {o : List Int} {a b : Nat} {u v : Int} (hu : o[a]? = some u) (hv : o[b]? = some v) (h : ¬ v < u) : exch o ((a : Int), (b : Int)) = o := by
  simp only [exch, getI_get hu, getI_get hv, if_neg h]
theorem did_eq {o : List Int} {a b : Nat} {u v : Int} (hu : o[a]? = some u) (hv : o[b]? = some v) : did o ((a : Int), (b : Int)) = decide (v < u) := by
  simp only [did, getI_get hu, getI_get hv]
theorem did_keep {l : List (Int × Int)} {o : List Int} {m : Nat} {k : Nat} (hl : (didL l o).length = m) (hk : k < m) (hv : (didL l o)[k]? = some false) :
    (didL l o).take k ++ List.replicate (m - k) false = (didL l o).take (k + 1) ++ List.replicate (m - (k + 1)) false := by
  rw [← did_set hl hk hv]
  have hkl : ((didL l o).take k).length = k := by simp; omega
  rw [List.set_append_right _ _ (by omega), hkl, Nat.sub_self, show m - k = (m - (k + 1)) + 1 from by omega, List.replicate_succ, List.set_cons_zero]
theorem get_at {α : Type} {l : List α} {n i : Nat} (hl : l.length = n) (h : i < n) : ∃ x, l[i]? = some x := ⟨_, List.getElem?_eq_getElem (by omega)⟩
end Go.Proofs.Ytilkgidilhgjeaa
