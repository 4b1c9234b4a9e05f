/-
  Slices of structs of ints among the arguments of a law, opened as flat lists of ints; lists of gates.
-/
import Derived.Test.YtilkgidilhgjeaaGate
import Derived.Deep.Slices
namespace Go.Proofs.Ytilkgidilhgjeaa
open Go.RowKit

open Go.ChangeShapes Go.WideShapes in
theorem flat_arg {H : Type} {enc : TypeId × Value → H} {P : Program} {W : World} {fuel z : Nat} {t e : TypeId} {fs : Array Field} {a : Option Addr} {len cap : Nat} {x : DataW H × List MemPlace}
    (ht : P.underlying t = some (.slice e)) (he : P.underlying e = some (.struct fs)) (ce : P.cellsOf e = z)
    (hfs : ∀ j, j < z → ∃ f, fs[j]? = some f ∧ f.offset = j ∧ P.cellsOf f.type = 1 ∧ P.underlying f.type = some (.int .i64))
    (hf : DataW.trod enc P W 0 (fun _ => true) true fuel t [.slice a len cap] = some x) : ∃ zs, FlatArg z W a len zs := by
  rcases Go.Deep.open_slice ht hf with ⟨hcs, _⟩ | ⟨ad, l, cp, m, n, D, Pl, hcs, _, hl, hm, hmm, _, hx⟩
  · simp at hcs
    obtain ⟨rfl, rfl, rfl⟩ := hcs
    exact ⟨[], flat_nil W⟩
  · simp at hcs hmm
    obtain ⟨rfl, rfl, rfl⟩ := hcs
    subst hmm
    have key : ∀ i, i < len * z → ∃ v : Int, W.cell? (ad.add i) = some (.int .i64 v) := by
      intro i hi
      have hz : 0 < z := by
        rcases Nat.eq_zero_or_pos z with h | h
        · rw [h] at hi; simp at hi
        · exact h
      have hq : i / z < len := Nat.div_lt_of_lt_mul (by rw [Nat.mul_comm]; exact hi)
      have hr : i % z < z := Nat.mod_lt _ hz
      obtain ⟨cs', h1, h2⟩ := hx (i / z) (by omega)
      rw [ce] at h1
      obtain ⟨_, hlen, hcell⟩ := World.cells?_some h1
      obtain ⟨xs, k, _, _, _, hxl, hg⟩ := DataW.trod_struct he h2
      obtain ⟨f, hfj, ho, hc, hi64⟩ := hfs _ hr
      have g := hg _ f hfj
      rw [ho, hc] at g
      have hlt : i % z < xs.length := by rw [hxl]; exact (Array.getElem?_eq_some_iff.1 hfj).1
      rw [List.getElem?_eq_getElem hlt] at g
      obtain ⟨v, hv, _⟩ := DataW.trod_int hi64 g
      have hc2 : cs'[i % z]? = some (.int .i64 v) := by
        have h0 : ((cs'.drop (i % z)).take 1)[0]? = some (.int .i64 v) := by rw [hv]; rfl
        simpa [List.getElem?_take, List.getElem?_drop] using h0
      have h3 := hcell (i % z) hr
      rw [Go.Deep.add_add, hc2, Nat.div_add_mod'] at h3
      exact ⟨v, h3⟩
    obtain ⟨f, hf⟩ := Go.Deep.choose_lt key
    exact ⟨_, flat_of_open (Nat.le_trans hl hm) f hf⟩

/-- A flat list of ints as gates. -/
def gts : List Int → List (Int × Int × Int)
  | k :: a :: b :: r => (k, a, b) :: gts r
  | _ => []
theorem gts_length : ∀ (n : Nat) (xs : List Int), xs.length = n * 3 → (gts xs).length = n
  | 0, xs, h => by have : xs = [] := List.eq_nil_of_length_eq_zero (by omega); subst this; rfl
  | n + 1, xs, h => by
    match xs, h with
    | k :: a :: b :: r, h => simp only [gts, List.length_cons]; rw [gts_length n r (by simp at h; omega)]
    | [], h => simp at h
    | [_], h => simp at h; omega
    | [_, _], h => simp at h; omega
theorem gts_get : ∀ (k : Nat) (xs : List Int) (x y z : Int), xs[k * 3]? = some x → xs[k * 3 + 1]? = some y → xs[k * 3 + 2]? = some z → (gts xs)[k]? = some (x, y, z)
  | 0, xs, x, y, z, h1, h2, h3 => by
    match xs, h1, h2, h3 with
    | p :: q :: s :: r, h1, h2, h3 => simp at h1 h2 h3; simp [gts, h1, h2, h3]
    | [], h1, _, _ => cases h1
    | [_], _, h2, _ => cases h2
    | [_, _], _, _, h3 => cases h3
  | k + 1, xs, x, y, z, h1, h2, h3 => by
    match xs, h1, h2, h3 with
    | p :: q :: s :: r, h1, h2, h3 =>
      rw [show (k + 1) * 3 = k * 3 + 1 + 1 + 1 from by omega] at h1 h2 h3
      rw [show k * 3 + 1 + 1 + 1 + 1 = k * 3 + 1 + 1 + 1 + 1 from rfl] at h2
      rw [show k * 3 + 1 + 1 + 1 + 2 = k * 3 + 2 + 1 + 1 + 1 from by omega] at h3
      simp only [List.getElem?_cons_succ] at h1 h2 h3
      simp only [gts, List.getElem?_cons_succ]
      exact gts_get k r x y z h1 h2 h3
    | [], h1, _, _ => simp at h1
    | [_], h1, _, _ => simp at h1
    | [_, _], h1, _, _ => rw [List.getElem?_eq_none (by simp; omega)] at h1; cases h1
/-- Element k of a list of gates. -/
theorem Flat.gate {w : World} {B : Nat} {ao : Option Addr} {n : Nat} {xs : List Int} (h : Flat 3 w B ao n xs) {k : Nat} (hk : k < n) :
    ∃ b off x y z, ao = some ⟨b, off, none⟩ ∧ b < B ∧ (gts xs)[k]? = some (x, y, z) ∧ w.cell? ⟨b, off + k * 3, none⟩ = some (.int .i64 x) ∧ w.cell? ⟨b, off + k * 3 + 1, none⟩ = some (.int .i64 y) ∧ w.cell? ⟨b, off + k * 3 + 2, none⟩ = some (.int .i64 z) := by
  obtain ⟨b, off, rfl, hb, hat⟩ := h.at (by decide) hk
  obtain ⟨x, hx, hcx⟩ := hat 0 (by decide)
  obtain ⟨y, hy, hcy⟩ := hat 1 (by decide)
  obtain ⟨z, hz, hcz⟩ := hat 2 (by decide)
  exact ⟨b, off, x, y, z, rfl, hb, gts_get k xs x y z hx hy hz, hcx, by rw [Nat.add_assoc]; exact hcy, by rw [Nat.add_assoc]; exact hcz⟩

/-- A gate is valid behind so many wires. -/
def gateB (own : Int) (g : Int × Int × Int) : Bool :=
  if g.1 = 0 ∨ g.1 = 1 then inB g.2.1 0 (own - 1) && inB g.2.2 0 (own - 1)
  else if g.1 = 2 then inB g.2.1 0 (own - 1) && decide (g.2.2 = 0)
  else if g.1 = 3 then decide (g.2.1 = 0) && decide (g.2.2 = 0) else false
def okG : List (Int × Int × Int) → Int → Bool
  | [], _ => true
  | g :: r, own => gateB own g && okG r (own + 1)
theorem okG_at : ∀ (l : List (Int × Int × Int)) (own : Int) (k : Nat) (g : Int × Int × Int), okG l own = true → l[k]? = some g → gateB (own + k) g = true
  | [], _, _, _, _, h => by simp at h
  | x :: r, own, 0, g, h, hg => by simp [okG] at h; simp at hg; subst hg; simpa using h.1
  | x :: r, own, k + 1, g, h, hg => by
    simp [okG] at h
    have := okG_at r (own + 1) k g h.2 (by simpa using hg)
    rw [show own + ((k + 1 : Nat) : Int) = own + 1 + k from by omega]
    exact this
theorem okG_no : ∀ (l : List (Int × Int × Int)) (own : Int) (k : Nat) (g : Int × Int × Int), l[k]? = some g → gateB (own + k) g = false → okG l own = false
  | l, own, k, g, hg, h => by
    cases hb : okG l own with
    | false => rfl
    | true => rw [okG_at l own k g hb hg] at h; cases h
theorem okG_step : ∀ (l : List (Int × Int × Int)) (own : Int) (k : Nat) (g : Int × Int × Int), l[k]? = some g → okG (l.take k) own = true → gateB (own + k) g = true → okG (l.take (k + 1)) own = true
  | [], _, _, _, h, _, _ => by simp at h
  | x :: r, own, 0, g, hg, _, hb => by simp at hg; subst hg; simpa [okG] using hb
  | x :: r, own, k + 1, g, hg, h, hb => by
    simp only [List.take_succ_cons, okG, Bool.and_eq_true] at h ⊢
    refine ⟨h.1, okG_step r (own + 1) k g (by simpa using hg) h.2 ?_⟩
    rw [show own + 1 + (k : Int) = own + ((k + 1 : Nat) : Int) from by omega]
    exact hb
def isCircF (i0 i1 : Int) (gs os : List Int) : Bool := inB i0 0 20 && (inB i1 0 20 && (decide (gs.length ≤ 900) && (decide (os.length ≤ 40) && (okG (gts gs) (i0 + i1) && allIn 0 (i0 + i1 + (gts gs).length - 1) os))))
end Go.Proofs.Ytilkgidilhgjeaa
