/-
  Circuits: the numbers of gates of all kinds.
-/
import Derived.Test.YtilkgidilhgjeaaCirc4
import Derived.Test.YtilkgidilhgjeaaWord
namespace Go.Proofs.Ytilkgidilhgjeaa
open Go.RowKit
set_option linter.unusedVariables false
set_option linter.unusedSimpArgs false

theorem get_at {α : Type} {l : List α} {n i : Nat} (hl : l.length = n) (h : i < n) : ∃ x, l[i]? = some x := ⟨_, List.getElem?_eq_getElem (by omega)⟩
theorem OwnI.blk {B : Nat} {w : World} {ao : Option Addr} {n cap : Nat} {xs : List Int} (h : OwnI B w ao n cap xs) (hn : 0 < n) : ∃ g, ao = some ⟨g, 0, none⟩ ∧ B ≤ g ∧ g < w.heap.size := by
  obtain ⟨g, h1, h2, h3, _⟩ := h.2.2.some hn
  exact ⟨g, h1, h2, h3⟩
theorem made_ints {B : Nat} {w : World} {b n : Nat} (hn : n ≤ 1000000000) (h : w.ownsRow B 3 1 (.slice (some ⟨b, 0, none⟩) n n) n (madeCells (Value.int .i64 0).cells (n * 1)).toList) : OwnI B w (some ⟨b, 0, none⟩) n n (List.replicate n 0) := by
  rw [show (Value.int IntKind.i64 0).cells = #[.int .i64 0] from rfl, toList_madeCells_one, Nat.mul_one] at h
  exact ⟨by simp, hn, .inr ⟨_, rfl, by simpa using h⟩⟩
/-- The kinds of gates are numbers from 0 to 3. -/
def kindsOk (l : List (Int × Int × Int)) : Prop := ∀ (k : Nat) (g : Int × Int × Int), l[k]? = some g → 0 ≤ g.1 ∧ g.1 ≤ 3
theorem gateB_kind {own : Int} {g : Int × Int × Int} (h : gateB own g = true) : 0 ≤ g.1 ∧ g.1 ≤ 3 := by
  unfold gateB at h
  split at h
  · omega
  · split at h
    · omega
    · split at h
      · omega
      · cases h
theorem okG_kinds {l : List (Int × Int × Int)} {own : Int} (h : okG l own = true) : kindsOk l := fun k g hg => gateB_kind (okG_at l own k g h hg)
def cntStep (o : List Int) (g : Int × Int × Int) : List Int := o.set g.1.toNat (o.getD g.1.toNat 0 + 1)
def cntK (l : List (Int × Int × Int)) : List Int := l.foldl cntStep [0, 0, 0, 0]
theorem cntK_step {l : List (Int × Int × Int)} {k : Nat} {g : Int × Int × Int} (h : l[k]? = some g) : cntK (l.take (k + 1)) = cntStep (cntK (l.take k)) g := by
  rw [cntK, cntK, List.take_add_one, h]; simp [List.foldl_append]
theorem cntK_le (l : List (Int × Int × Int)) : ∀ (o : List Int) (m : Int), (∀ (i : Nat) (x : Int), o[i]? = some x → 0 ≤ x ∧ x ≤ m) → ∀ (i : Nat) (x : Int), (l.foldl cntStep o)[i]? = some x → 0 ≤ x ∧ x ≤ m + l.length := by
  induction l with
  | nil => intro o m h i x hx; have := h i x hx; simp; omega
  | cons g l ih =>
    intro o m h i x hx
    have := ih (cntStep o g) (m + 1) (fun i x hx => by
      unfold cntStep at hx
      rw [List.getElem?_set] at hx
      split at hx
      · split at hx
        · rename_i h1 h2
          have hx := Option.some.inj hx
          have := h g.1.toNat (o[g.1.toNat]'(by simpa using h2)) (by simp)
          have e : o.getD g.1.toNat 0 = o[g.1.toNat]'(by simpa using h2) := by simp [List.getD, show g.1.toNat < o.length by simpa using h2]
          omega
        · cases hx
      · have := h i x hx; omega) i x (by simpa using hx)
    simp
    omega
def smallC (k : Nat) (o : List Int) : Prop := ∀ (i : Nat) (x : Int), o[i]? = some x → 0 ≤ x ∧ x ≤ k
theorem cntK_small (l : List (Int × Int × Int)) : smallC l.length (cntK l) := fun i x hx => by
  have := cntK_le l [0, 0, 0, 0] 0 (fun i x h => by
    match i, h with
    | 0, h => simp at h; omega
    | 1, h => simp at h; omega
    | 2, h => simp at h; omega
    | 3, h => simp at h; omega
    | i + 4, h => simp at h) i x hx
  omega
theorem cnt_len (l : List (Int × Int × Int)) : ∀ o : List Int, (l.foldl cntStep o).length = o.length := by
  induction l with
  | nil => intro o; rfl
  | cons g l ih => intro o; rw [List.foldl_cons, ih]; simp [cntStep]
theorem isCirc_facts {i0 i1 : Int} {gs os : List Int} {gn on : Nat} (hg : gs.length = gn * 3) (ho : os.length = on) (h : isCircF i0 i1 gs os = true) :
    inB i0 0 20 = true ∧ inB i1 0 20 = true ∧ gn ≤ 300 ∧ on ≤ 40 ∧ okG (gts gs) (i0 + i1) = true ∧ allIn 0 (i0 + i1 + gn - 1) os = true := by
  simp only [isCircF, Bool.and_eq_true, decide_eq_true_eq, gts_length gn gs hg] at h
  obtain ⟨h1, h2, h3, h4, h5, h6⟩ := h
  exact ⟨h1, h2, by omega, by omega, h5, h6⟩
def countGatesF (i0 i1 : Int) (gs os : List Int) : List Int × Bool := if isCircF i0 i1 gs os = true then (cntK (gts gs), true) else ([], false)
end Go.Proofs.Ytilkgidilhgjeaa
