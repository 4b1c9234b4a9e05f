/-
  The language: TrimProgram: plain law; copies of texts; a line appended.
-/
import Derived.Test.YtdlddkgmjpmenaaGreatDoorHNd
import Derived.Test.YtdlddkgmjpmenaaGreatDoorHMk
namespace Go.Proofs.YtdlddkgmjpmenaaGreatDoor
open Go.RowKit
set_option linter.unusedVariables false
set_option linter.unusedSimpArgs false

def keepB (ls : List Ln) (k : Nat) (x : Ln) : Bool := (ndL ls ls.length).getD k false || isOut x || x.kind == 1
def trimL (ls : List Ln) : Nat → List Ln
  | 0 => []
  | k + 1 => match ls[k]? with
    | some x => if keepB ls k x = true then trimL ls k ++ [x] else trimL ls k
    | none => trimL ls k
def trimF (ls : List Ln) : List Ln × Bool := if laGoodF ls = true then (trimL ls ls.length, true) else ([], false)
theorem trimL_step {ls : List Ln} {k : Nat} {x : Ln} (h : ls[k]? = some x) : trimL ls (k + 1) = if keepB ls k x = true then trimL ls k ++ [x] else trimL ls k := by
  rw [trimL, h]
theorem partsSum_append (a b : List Ln) : partsSum (a ++ b) = partsSum a + partsSum b := by
  induction a with
  | nil => simp [partsSum]
  | cons x r ih => rw [List.cons_append, partsSum_cons, partsSum_cons, ih]; omega
theorem trim_sum (ls : List Ln) : ∀ k, k ≤ ls.length → (trimL ls k).length + partsSum (trimL ls k) ≤ k + partsSum (ls.take k)
  | 0, _ => by simp [trimL, partsSum]
  | k + 1, hk => by
    have ih := trim_sum ls k (by omega)
    have e : ls[k]? = some ls[k] := List.getElem?_eq_getElem (by omega)
    rw [trimL_step e, partsSum_step e]
    split
    · rw [List.length_append, partsSum_append, partsSum_cons]
      simp [partsSum] at ih ⊢
      omega
    · omega
theorem trim_mem (ls : List Ln) : ∀ k, ∀ x ∈ trimL ls k, x ∈ ls
  | 0, x, h => by simp [trimL] at h
  | k + 1, x, h => by
    rw [trimL] at h
    split at h
    · rename_i y hy
      split at h
      · rw [List.mem_append] at h
        rcases h with h | h
        · exact trim_mem ls k x h
        · simp at h; subst h; exact List.mem_of_getElem? hy
      · exact trim_mem ls k x h
    · exact trim_mem ls k x h
theorem trimF_ok {ls : List Ln} (hs : okS ls) (hsum : ls.length + partsSum ls ≤ 1048576) {r : List Ln × Bool} (h : r = trimF ls) : okS r.1 ∧ r.1.length + partsSum r.1 ≤ 1048576 := by
  subst h
  unfold trimF
  split
  · refine ⟨fun x hx => hs x (trim_mem ls _ x hx), ?_⟩
    have := trim_sum ls ls.length (Nat.le_refl _)
    rw [List.take_length] at this
    simp only []
    omega
  · exact ⟨fun x hx => by simp at hx, by simp [partsSum]⟩
/-! ### Copies of texts -/
theorem strs_oneCell (ss : List ByteArray) : ∀ u ∈ ss.map Value.string, u.oneCell' = true := by
  intro u hu
  rw [List.mem_map] at hu
  obtain ⟨x, _, rfl⟩ := hu
  simp [Value.oneCell']
theorem wpList_append_ss {w : World} {ops : Array Oper} {rest : List Oper} {o : Oper} {a : Act} {Q : Exit → Act → World → Prop} (hgd : o.guard = none) (s x : Operand)
    (ho : o.op = .call { callee := .builtin .append, args := #[s, x], argTypes := #[45, 45] })
    (B : Nat) (ao : Option Addr) (n cap : Nat) (xs : List ByteArray) (C : Nat) (xo : Option Addr) (m c : Nat) (ys : List ByteArray) (hs : a.eval s = .slice ao n cap) (hx : a.eval x = .slice xo m c)
    (hown : OwnSt B w ao n cap xs) (hy : Strs w C xo m ys) (hn : n + m < 999999990) (hB : B ≤ w.heap.size)
    (h : ∀ ao' cap' w', OwnSt B w' ao' (n + m) cap' (xs ++ ys) → w.grownBy w' (rowOf ao cap) → wpList Tryz.prog ops Q rest (a.put o.dst (.slice ao' (n + m) cap')) w') :
    wpList Tryz.prog ops Q (o :: rest) a w :=
  wpList_append_any hgd s x 45 9 (.string ⟨#[]⟩) 1 16 Tryz.underlying45 str_info rfl (by decide) ho B ao n cap (xs.map Value.string) hs hown.2.2 C xo m c (ys.map Value.string) hx (by simp [hy.1]) hy.2.2
    (strs_oneCell _) (by decide) (by omega) hB fun ao' cap' w' h1 h2 => h ao' cap' w' ⟨by simp [hown.1, hy.1], by omega, by simpa using h1⟩ h2
theorem l1OwnS_any (w : World) (B : Nat) (ao : Option Addr) (n c : Nat) (ss : List ByteArray) (ha : Strs w B ao n ss) (hB : B ≤ w.heap.size) (hn : n ≤ 2000000) :
    Calls Tryz.prog 77 #[.slice ao n c] w (RetSt ss w) := by
  have hb0 : Below w.heap.size w (w.alloc (.cells #[] 9)) := (Below.refl _ _).alloc (Nat.le_refl _) _
  have ha1 := ha.below hb0 hB
  go_enter Tryz.func77, Tryz.ntmps77
  go_wp2_with (at_builtin; refine wpList_append_ss rfl _ _ rfl w.heap.size _ _ _ [] _ _ _ _ _ rfl rfl (OwnSt.nil _ _ _) ha1 (by omega) (by simp) ?_; intro ao' cap' w1 hown1 hg1)
  go_ret
  exact ⟨_, _, _, rfl, by simpa using hown1, hb0.grown hg1 (by simp) (by simp [rowOf])⟩
theorem cloneS_any (w : World) (B : Nat) (ao : Option Addr) (n c : Nat) (ss : List ByteArray) (ha : Strs w B ao n ss) (hB : B ≤ w.heap.size) (hn : n ≤ 2000000) :
    Calls Tryz.prog 62 #[.slice ao n c] w (RetSt ss w) := by
  have hnil := fun (W : World) (a : Option Addr) => Lib.run_eql_slice_nil (P := Tryz.prog) W 45 9 a n c 0 0 Tryz.underlying45
  have hl := Lib.hid ha.1
  cases ao with
  | none =>
    have hn0 : n = 0 := by
      rcases Nat.eq_zero_or_pos n with h | h
      · exact h
      · obtain ⟨b, off, x, h1, _⟩ := ha.at h
        cases h1
    subst hn0
    have hx : ss = [] := List.eq_nil_of_length_eq_zero hl.out
    subst hx
    go_enter Tryz.func62, Tryz.ntmps62
    go_wp2_with fail
    go_ret
    exact ⟨_, _, _, rfl, OwnSt.nil _ _ _, Below.refl _ _⟩
  | some a =>
    have hb0 : Below w.heap.size w (w.alloc (.cells #[] 9)) := (Below.refl _ _).alloc (Nat.le_refl _) _
    have ha1 := ha.below hb0 hB
    go_enter Tryz.func62, Tryz.ntmps62
    go_wp2_with (at_builtin; refine wpList_append_ss rfl _ _ rfl w.heap.size _ _ _ [] _ _ _ _ _ rfl rfl (OwnSt.nil _ _ _) ha1 (by omega) (by simp) ?_; intro ao' cap' w1 hown1 hg1)
    go_ret
    exact ⟨_, _, _, rfl, by simpa using hown1, hb0.grown hg1 (by simp) (by simp [rowOf])⟩
/-! ### A line appended -/
theorem lines_oneCell (l : Ln) (x : Option Addr × Nat) : ∀ u ∈ lineCells l x, u.oneCell' = true := by
  intro u hu
  simp only [lineCells, List.mem_cons, List.not_mem_nil, or_false] at hu
  rcases hu with rfl | rfl | rfl | rfl | rfl | rfl | rfl <;> simp [Value.oneCell']
theorem TT.nil (B : Nat) (w : World) (ao : Option Addr) : TT B w ao 0 0 [] [] := ⟨rfl, by decide, rfl, OwnC.nil _ _ _ _ _, fun k l x a => by simp at a, fun i j x y a => by simp at a⟩
theorem TT.rows {B : Nat} {w : World} {ao : Option Addr} {n cap : Nat} {hs : List (Option Addr × Nat)} {ls : List Ln} (h : TT B w ao n cap hs ls) : ∀ (i : Nat) (y : Option Addr × Nat) (p : Nat), hs[i]? = some y → rowOf y.1 y.2 = some p → p < w.heap.size := by
  intro i y p hy hp
  obtain ⟨l, hl⟩ := getL_at (i := i) h.len (by rw [← h.hlen]; exact (List.getElem?_eq_some_iff.1 hy).1)
  exact ((h.parts i l y hl hy).rowLt p hp).2
theorem TT.app {B S : Nat} {w w' : World} {ao ao' : Option Addr} {n cap cap' : Nat} {hs : List (Option Addr × Nat)} {ls : List Ln} {l : Ln} {x : Option Addr × Nat} (h : TT B w ao n cap hs ls) (hx : OwnSt S w x.1 l.parts.length x.2 l.parts)
    (hS : ∀ (i : Nat) (y : Option Addr × Nat) (p : Nat), hs[i]? = some y → rowOf y.1 y.2 = some p → p < S) (hBS : B ≤ S) (hrow : OwnC 47 7 B w' ao' (n + 1) cap' (linesCells ls hs ++ lineCells l x)) (hg : w.grownBy w' (rowOf ao cap)) (hn : n + 1 ≤ 1000000000) : TT B w' ao' (n + 1) cap' (hs ++ [x]) (ls ++ [l]) := by
  have hlh : ls.length = hs.length := h.len.trans h.hlen.symm
  have keep : ∀ {y : Option Addr × Nat} {m : Nat} {ss : List ByteArray} {T : Nat}, OwnSt T w y.1 m y.2 ss → OwnSt T w' y.1 m y.2 ss := fun ho => ho.other hg fun p q hp hq => ownC_apart ho.2.2 h.row (by decide) p q hp hq
  have last : ∀ {α : Type} {xs : List α} {a b : α} {i : Nat}, (xs ++ [a])[i]? = some b → (i < xs.length ∧ xs[i]? = some b) ∨ (i = xs.length ∧ a = b) := by
    intro α xs a b i e
    by_cases hi : i < xs.length
    · rw [List.getElem?_append_left hi] at e
      exact .inl ⟨hi, e⟩
    · rw [List.getElem?_append_right (by omega)] at e
      have : i - xs.length = 0 := by
        have := (List.getElem?_eq_some_iff.1 e).1
        simp at this
        omega
      rw [this] at e
      simp at e
      exact .inr ⟨by omega, e⟩
  refine ⟨by rw [List.length_append, h.len]; rfl, hn, by rw [List.length_append, h.hlen]; rfl, by rw [linesCells_snoc _ _ _ _ hlh]; exact hrow, fun k y z a b => ?_, fun i j y z a b hij p hp hq => ?_⟩
  · rcases last a with ⟨hk, a'⟩ | ⟨hk, rfl⟩
    · rcases last b with ⟨_, b'⟩ | ⟨hk2, _⟩
      · exact keep (h.parts k y z a' b')
      · omega
    · rcases last b with ⟨hk2, _⟩ | ⟨_, rfl⟩
      · omega
      · exact (keep hx).up hBS
  · rcases last a with ⟨hi, a'⟩ | ⟨hi, rfl⟩
    · rcases last b with ⟨hj, b'⟩ | ⟨hj, rfl⟩
      · exact h.apart i j y z a' b' hij p hp hq
      · have := hS i y p a' hp
        have := (hx.rowLt p hq).1
        omega
    · rcases last b with ⟨hj, b'⟩ | ⟨hj, rfl⟩
      · have := hS j z p b' hq
        have := (hx.rowLt p hp).1
        omega
      · omega
/-- 'append' of one line. -/
theorem wpList_append_l {w : World} {ops : Array Oper} {rest : List Oper} {o : Oper} {a : Act} {Q : Exit → Act → World → Prop} (hgd : o.guard = none) (s y : Operand)
    (ho : o.op = .call { callee := .builtin .append, args := #[s, y], argTypes := #[22, 22] })
    (B S : Nat) (ao : Option Addr) (n cap : Nat) (hs : List (Option Addr × Nat)) (ls : List Ln) (l : Ln) (po : Option Addr) (pc : Nat) (hv : a.eval s = .slice ao n cap) (hx : a.eval y = .slice (some ⟨w.heap.size, 0, none⟩) 1 1)
    (h : TT B w ao n cap hs ls) (hxs : OwnSt S w po l.parts.length pc l.parts) (hS : ∀ (i : Nat) (y : Option Addr × Nat) (p : Nat), hs[i]? = some y → rowOf y.1 y.2 = some p → p < S) (hBS : B ≤ S) (hn : n < 999999990) (hB : B ≤ w.heap.size)
    (hQ : ∀ ao' cap' w', TT B w' ao' (n + 1) cap' (hs ++ [(po, pc)]) (ls ++ [l]) → w.grownBy w' (rowOf ao cap) → wpList Tryz.prog ops Q rest (a.put o.dst (.slice ao' (n + 1) cap')) w') :
    wpList Tryz.prog ops Q (o :: rest) a (w.alloc (.cells #[.int .i64 l.kind, .string l.name, .string l.op, .slice po l.parts.length pc, .int .i64 l.party, .int .i64 l.width, .int .i64 l.value] 47)) :=
  wpList_append_new hgd s y 22 47 (.agg #[.int .i64 0, .string ⟨#[]⟩, .string ⟨#[]⟩, .slice none 0 0, .int .i64 0, .int .i64 0, .int .i64 0]) 7 88 Tryz.underlying22 Line_info rfl (by decide) (by decide) ho B ao n cap (linesCells ls hs) 1 1 (lineCells l (po, pc)) hv hx rfl (lines_oneCell _ _) h.row (by omega) hB
    fun ao' cap' w' h1 h2 => hQ ao' cap' w' (h.app (x := (po, pc)) hxs hS hBS h1 h2 (by omega)) h2
def RetTB (r : List Ln × Bool) (w : World) (e : Ending) (w' : World) : Prop := ∃ ao n cap hs, e = .returned (.tuple #[.slice ao n cap, .bool r.2]) ∧ TT w.heap.size w' ao n cap hs r.1 ∧ Below w.heap.size w w'
theorem RetTB.eq {r : List Ln × Bool} {ao : Option Addr} {n c : Nat} {hs : List (Option Addr × Nat)} {xs : List Ln} {b : Bool} {w w' : World} (h : r = (xs, b)) (ho : TT w.heap.size w' ao n c hs xs) (hb : Below w.heap.size w w') : RetTB r w (.returned (.tuple #[.slice ao n c, .bool b])) w' := by
  subst h; exact ⟨_, _, _, _, rfl, ho, hb⟩
end Go.Proofs.YtdlddkgmjpmenaaGreatDoor
