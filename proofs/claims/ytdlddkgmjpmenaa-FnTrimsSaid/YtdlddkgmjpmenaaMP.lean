/-
  The language: TrimProgram: plain law; copies of texts; a line appended.
-/
import Derived.Test.YtdlddkgmjpmenaaMG
import Derived.Test.YtdlddkgmjpmenaaMD
namespace Go.Proofs.Ytdlddkgmjpmenaa
open Go.RowKit
set_option linter.unusedVariables false
set_option linter.unusedSimpArgs false

def keepB (ls : List Ln) (k : Nat) (x : Ln) : Bool := (ndL ls ls.length).getD k false || isOut x || x.kind == 1
def trimL (ls : List Ln) : Nat → List Ln
  | 0 => []
  | k + 1 => match ls[k]? with
    | some x => if keepB ls k x = true then trimL ls k ++ [x] else trimL ls k
    | none => trimL ls k
def trimF (ls : List Ln) : List Ln × Bool := if laGoodF ls = true then (trimL ls ls.length, true) else ([], false)
theorem trimL_step {ls : List Ln} {k : Nat} {x : Ln} (h : ls[k]? = some x) : trimL ls (k + 1) = if keepB ls k x = true then trimL ls k ++ [x] else trimL ls k := by
  rw [trimL, h]
theorem partsSum_append (a b : List Ln) : partsSum (a ++ b) = partsSum a + partsSum b := by
  induction a with
  | nil => simp [partsSum]
  | cons x r ih => rw [List.cons_append, partsSum_cons, partsSum_cons, ih]; omega
theorem trim_sum (ls : List Ln) : ∀ k, k ≤ ls.length → (trimL ls k).length + partsSum (trimL ls k) ≤ k + partsSum (ls.take k)
  | 0, _ => by simp [trimL, partsSum]
  | k + 1, hk => by
    have ih := trim_sum ls k (by omega)
    have e : ls[k]? = some ls[k] := List.getElem?_eq_getElem (by omega)
    rw [trimL_step e, partsSum_step e]
    split
    · rw [List.length_append, partsSum_append, partsSum_cons]
      simp [partsSum] at ih ⊢
      omega
    · omega
theorem trim_mem (ls : List Ln) : ∀ k, ∀ x ∈ trimL ls k, x ∈ ls
  | 0, x, h => by simp [trimL] at h
  | k + 1, x, h => by
    rw [trimL] at h
    split at h
    · rename_i y hy
      split at h
      · rw [List.mem_append] at h
        rcases h with h | h
        · exact trim_mem ls k x h
        · simp at h; subst h; exact List.mem_of_getElem? hy
      · exact trim_mem ls k x h
    · exact trim_mem ls k x h
theorem trimF_ok {ls : List Ln} (hs : okS ls) (hsum : ls.length + partsSum ls ≤ 1048576) {r : List Ln × Bool} (h : r = trimF ls) : okS r.1 ∧ r.1.length + partsSum r.1 ≤ 1048576 := by
  subst h
  unfold trimF
  split
  · refine ⟨fun x hx => hs x (trim_mem ls _ x hx), ?_⟩
    have := trim_sum ls ls.length (Nat.le_refl _)
    rw [List.take_length] at this
    simp only []
    omega
  · exact ⟨fun x hx => by simp at hx, by simp [partsSum]⟩
/-! ### Copies of texts -/
theorem strs_oneCell (ss : List ByteArray) : ∀ u ∈ ss.map Value.string, u.oneCell' = true := by
  intro u hu
  rw [List.mem_map] at hu
  obtain ⟨x, _, rfl⟩ := hu
  simp [Value.oneCell']
theorem wpList_append_ss {w : World} {ops : Array Oper} {rest : List Oper} {o : Oper} {a : Act} {Q : Exit → Act → World → Prop} (hgd : o.guard = none) (s x : Operand)
    (ho : o.op = .call { callee := .builtin .append, args := #[s, x], argTypes := #[32, 32] })
    (B : Nat) (ao : Option Addr) (n cap : Nat) (xs : List ByteArray) (C : Nat) (xo : Option Addr) (m c : Nat) (ys : List ByteArray) (hs : a.eval s = .slice ao n cap) (hx : a.eval x = .slice xo m c)
    (hown : OwnSt B w ao n cap xs) (hy : Strs w C xo m ys) (hn : n + m < 999999990) (hB : B ≤ w.heap.size)
    (h : ∀ ao' cap' w', OwnSt B w' ao' (n + m) cap' (xs ++ ys) → w.grownBy w' (rowOf ao cap) → wpList Try.prog ops Q rest (a.put o.dst (.slice ao' (n + m) cap')) w') :
    wpList Try.prog ops Q (o :: rest) a w :=
  wpList_append_any hgd s x 32 9 (.string ⟨#[]⟩) 1 16 Try.underlying32 str_info rfl (by decide) ho B ao n cap (xs.map Value.string) hs hown.2.2 C xo m c (ys.map Value.string) hx (by simp [hy.1]) hy.2.2
    (strs_oneCell _) (by decide) (by omega) hB fun ao' cap' w' h1 h2 => h ao' cap' w' ⟨by simp [hown.1, hy.1], by omega, by simpa using h1⟩ h2
theorem l1OwnS_any (w : World) (B : Nat) (ao : Option Addr) (n c : Nat) (ss : List ByteArray) (ha : Strs w B ao n ss) (hB : B ≤ w.heap.size) (hn : n ≤ 2000000) :
    Calls Try.prog 26 #[.slice ao n c] w (RetSt ss w) := by
  have hb0 : Below w.heap.size w (w.alloc (.cells #[] 9)) := (Below.refl _ _).alloc (Nat.le_refl _) _
  have ha1 := ha.below hb0 hB
  go_enter Try.func26, Try.ntmps26
  go_wp2_with (at_builtin; refine wpList_append_ss rfl _ _ rfl w.heap.size _ _ _ [] _ _ _ _ _ rfl rfl (OwnSt.nil _ _ _) ha1 (by omega) (by simp) ?_; intro ao' cap' w1 hown1 hg1)
  go_ret
  exact ⟨_, _, _, rfl, by simpa using hown1, hb0.grown hg1 (by simp) (by simp [rowOf])⟩
theorem cloneS_any (w : World) (B : Nat) (ao : Option Addr) (n c : Nat) (ss : List ByteArray) (ha : Strs w B ao n ss) (hB : B ≤ w.heap.size) (hn : n ≤ 2000000) :
    Calls Try.prog 23 #[.slice ao n c] w (RetSt ss w) := by
  have hnil := fun (W : World) (a : Option Addr) => Lib.run_eql_slice_nil (P := Try.prog) W 32 9 a n c 0 0 Try.underlying32
  have hl := Lib.hid ha.1
  cases ao with
  | none =>
    have hn0 : n = 0 := by
      rcases Nat.eq_zero_or_pos n with h | h
      · exact h
      · obtain ⟨b, off, x, h1, _⟩ := ha.at h
        cases h1
    subst hn0
    have hx : ss = [] := List.eq_nil_of_length_eq_zero hl.out
    subst hx
    go_enter Try.func23, Try.ntmps23
    go_wp2_with fail
    go_ret
    exact ⟨_, _, _, rfl, OwnSt.nil _ _ _, Below.refl _ _⟩
  | some a =>
    have hb0 : Below w.heap.size w (w.alloc (.cells #[] 9)) := (Below.refl _ _).alloc (Nat.le_refl _) _
    have ha1 := ha.below hb0 hB
    go_enter Try.func23, Try.ntmps23
    go_wp2_with (at_builtin; refine wpList_append_ss rfl _ _ rfl w.heap.size _ _ _ [] _ _ _ _ _ rfl rfl (OwnSt.nil _ _ _) ha1 (by omega) (by simp) ?_; intro ao' cap' w1 hown1 hg1)
    go_ret
    exact ⟨_, _, _, rfl, by simpa using hown1, hb0.grown hg1 (by simp) (by simp [rowOf])⟩
/-! ### A line appended -/
theorem lines_oneCell (l : Ln) (x : Option Addr × Nat) : ∀ u ∈ lineCells l x, u.oneCell' = true := by
  intro u hu
  simp only [lineCells, List.mem_cons, List.not_mem_nil, or_false] at hu
  rcases hu with rfl | rfl | rfl | rfl | rfl | rfl | rfl <;> simp [Value.oneCell']
theorem TT.nil (B : Nat) (w : World) (ao : Option Addr) : TT B w ao 0 0 [] [] := ⟨rfl, by decide, rfl, OwnC.nil _ _ _ _ _, fun k l x a => by simp at a, fun i j x y a => by simp at a⟩
theorem TT.rows {B : Nat} {w : World} {ao : Option Addr} {n cap : Nat} {hs : List (Option Addr × Nat)} {ls : List Ln} (h : TT B w ao n cap hs ls) : ∀ (i : Nat) (y : Option Addr × Nat) (p : Nat), hs[i]? = some y → rowOf y.1 y.2 = some p → p < w.heap.size := by
  intro i y p hy hp
  obtain ⟨l, hl⟩ := getL_at (i := i) h.len (by rw [← h.hlen]; exact (List.getElem?_eq_some_iff.1 hy).1)
  exact ((h.parts i l y hl hy).rowLt p hp).2
theorem TT.app {B S : Nat} {w w' : World} {ao ao' : Option Addr} {n cap cap' : Nat} {hs : List (Option Addr × Nat)} {ls : List Ln} {l : Ln} {x : Option Addr × Nat} (h : TT B w ao n cap hs ls) (hx : OwnSt S w x.1 l.parts.length x.2 l.parts)
    (hS : ∀ (i : Nat) (y : Option Addr × Nat) (p : Nat), hs[i]? = some y → rowOf y.1 y.2 = some p → p < S) (hBS : B ≤ S) (hrow : OwnC 54 7 B w' ao' (n + 1) cap' (linesCells ls hs ++ lineCells l x)) (hg : w.grownBy w' (rowOf ao cap)) (hn : n + 1 ≤ 1000000000) : TT B w' ao' (n + 1) cap' (hs ++ [x]) (ls ++ [l]) := by
  have hlh : ls.length = hs.length := h.len.trans h.hlen.symm
  have keep : ∀ {y : Option Addr × Nat} {m : Nat} {ss : List ByteArray} {T : Nat}, OwnSt T w y.1 m y.2 ss → OwnSt T w' y.1 m y.2 ss := fun ho => ho.other hg fun p q hp hq => ownC_apart ho.2.2 h.row (by decide) p q hp hq
  have last : ∀ {α : Type} {xs : List α} {a b : α} {i : Nat}, (xs ++ [a])[i]? = some b → (i < xs.length ∧ xs[i]? = some b) ∨ (i = xs.length ∧ a = b) := by
    intro α xs a b i e
    by_cases hi : i < xs.length
    · rw [List.getElem?_append_left hi] at e
      exact .inl ⟨hi, e⟩
    · rw [List.getElem?_append_right (by omega)] at e
      have : i - xs.length = 0 := by
        have := (List.getElem?_eq_some_iff.1 e).1
        simp at this
        omega
      rw [this] at e
      simp at e
      exact .inr ⟨by omega, e⟩
  refine ⟨by rw [List.length_append, h.len]; rfl, hn, by rw [List.length_append, h.hlen]; rfl, by rw [linesCells_snoc _ _ _ _ hlh]; exact hrow, fun k y z a b => ?_, fun i j y z a b hij p hp hq => ?_⟩
  · rcases last a with ⟨hk, a'⟩ | ⟨hk, rfl⟩
    · rcases last b with ⟨_, b'⟩ | ⟨hk2, _⟩
      · exact keep (h.parts k y z a' b')
      · omega
    · rcases last b with ⟨hk2, _⟩ | ⟨_, rfl⟩
      · omega
      · exact (keep hx).up hBS
  · rcases last a with ⟨hi, a'⟩ | ⟨hi, rfl⟩
    · rcases last b with ⟨hj, b'⟩ | ⟨hj, rfl⟩
      · exact h.apart i j y z a' b' hij p hp hq
      · have := hS i y p a' hp
        have := (hx.rowLt p hq).1
        omega
    · rcases last b with ⟨hj, b'⟩ | ⟨hj, rfl⟩
      · have := hS j z p b' hq
        have := (hx.rowLt p hp).1
        omega
      · omega
/-- 'append' of one line. -/
theorem wpList_append_l {w : World} {ops : Array Oper} {rest : List Oper} {o : Oper} {a : Act} {Q : Exit → Act → World → Prop} (hgd : o.guard = none) (s y : Operand)
    (ho : o.op = .call { callee := .builtin .append, args := #[s, y], argTypes := #[23, 23] })
    (B S : Nat) (ao : Option Addr) (n cap : Nat) (hs : List (Option Addr × Nat)) (ls : List Ln) (l : Ln) (po : Option Addr) (pc : Nat) (hv : a.eval s = .slice ao n cap) (hx : a.eval y = .slice (some ⟨w.heap.size, 0, none⟩) 1 1)
    (h : TT B w ao n cap hs ls) (hxs : OwnSt S w po l.parts.length pc l.parts) (hS : ∀ (i : Nat) (y : Option Addr × Nat) (p : Nat), hs[i]? = some y → rowOf y.1 y.2 = some p → p < S) (hBS : B ≤ S) (hn : n < 999999990) (hB : B ≤ w.heap.size)
    (hQ : ∀ ao' cap' w', TT B w' ao' (n + 1) cap' (hs ++ [(po, pc)]) (ls ++ [l]) → w.grownBy w' (rowOf ao cap) → wpList Try.prog ops Q rest (a.put o.dst (.slice ao' (n + 1) cap')) w') :
    wpList Try.prog ops Q (o :: rest) a (w.alloc (.cells #[.int .i64 l.kind, .string l.name, .string l.op, .slice po l.parts.length pc, .int .i64 l.party, .int .i64 l.width, .int .i64 l.value] 54)) :=
  wpList_append_new hgd s y 23 54 (.agg #[.int .i64 0, .string ⟨#[]⟩, .string ⟨#[]⟩, .slice none 0 0, .int .i64 0, .int .i64 0, .int .i64 0]) 7 88 Try.underlying23 Line_info rfl (by decide) (by decide) ho B ao n cap (linesCells ls hs) 1 1 (lineCells l (po, pc)) hv hx rfl (lines_oneCell _ _) h.row (by omega) hB
    fun ao' cap' w' h1 h2 => hQ ao' cap' w' (h.app (x := (po, pc)) hxs hS hBS h1 h2 (by omega)) h2
def RetTB (r : List Ln × Bool) (w : World) (e : Ending) (w' : World) : Prop := ∃ ao n cap hs, e = .returned (.tuple #[.slice ao n cap, .bool r.2]) ∧ TT w.heap.size w' ao n cap hs r.1 ∧ Below w.heap.size w w'
theorem RetTB.eq {r : List Ln × Bool} {ao : Option Addr} {n c : Nat} {hs : List (Option Addr × Nat)} {xs : List Ln} {b : Bool} {w w' : World} (h : r = (xs, b)) (ho : TT w.heap.size w' ao n c hs xs) (hb : Below w.heap.size w w') : RetTB r w (.returned (.tuple #[.slice ao n c, .bool b])) w' := by
  subst h; exact ⟨_, _, _, _, rfl, ho, hb⟩
end Go.Proofs.Ytdlddkgmjpmenaa
/-
  The language: TrimProgram, reference and program (printed by XTr2.py).
-/
namespace Go.Proofs.Ytdlddkgmjpmenaa
open Go.RowKit
set_option linter.unusedVariables false
set_option linter.unusedSimpArgs false

theorem good_len4 {ls : List Ln} (hg : laGoodF ls = true) : ls.length ≤ 30 := by
  unfold laGoodF at hg
  rw [Bool.and_eq_true] at hg
  simpa using hg.1
set_option maxRecDepth 100000 in
set_option maxHeartbeats 8000000 in
theorem spec_TrimProgram_any (w : World) (ao : Option Addr) (n c : Nat) (ls : List Ln) (h : Lns w w.heap.size ao n ls) (hs : okS ls) (hn20 : n ≤ 1048576) (hnc : n ≤ c) :
    Calls Try.prog 6 #[.slice ao n c] w (RetTB (trimF ls) w) := by
  have hn := h.le
  have hl := Lib.hid h.1
  have HSZ := Lib.hid hs
  go_enter Try.func6, Try.ntmps6
  go_wp2_with fail
  refine (laGood_any _ _ _ _ _ h hs hnc).mono ?_
  rintro e w1 ⟨rfl, hb1⟩
  cases hg : laGoodF ls
  · have HF : Hid (trimF ls = ([], false)) := by show _ = _; unfold trimF; rw [hg]; simp
    go_wp2_with fail
    go_ret2
    exact RetTB.eq HF.out (TT.nil _ _ _) hb1
  have HF : Hid (trimF ls = (trimL ls n, true)) := by show _ = _; unfold trimF; rw [if_pos hg, hl.out]
  have h30 := good_len4 hg
  rw [hl.out] at h30
  have HBL := Lib.hid (ndL_length ls n)
  have HG := Lib.hid hg
  clear hg hs
  go_wp2_with fail
  have hbwa := hb1
  refine (laNeeded_any _ _ _ _ _ ((h.below hbwa (Nat.le_refl _)).up hbwa.size) HG.out).mono ?_
  rintro e w4 ⟨g, rfl, hob, hb4⟩
  obtain ⟨bs, hbs⟩ : ∃ bs, bs = ndL ls n := ⟨_, rfl⟩
  rw [← hbs] at hob HBL
  have HBS := Lib.hid hbs
  clear hbs
  have hbw4 := hbwa.trans (hb4.mono hbwa.size)
  have hz1 := hb1.size
  have hza := hbwa.size
  have hz4 := hb4.size
  have h4 := h.below hbw4 (Nat.le_refl _)
  have HOB := Lib.hid hob
  clear hob
  go_wp2_with fail
  go_loopw [4, 14] (fun out i wr => ∃ (k : Nat) (co : Option Addr) (m cap : Nat) (hs : List (Option Addr × Nat)), k ≤ n ∧ m ≤ k ∧ i = .int .i64 k ∧ out = .slice co m cap ∧ TT w4.heap.size wr co m cap hs (trimL ls k) ∧ Below w4.heap.size w4 wr) (fun _ i _ => n - (intOf i).toNat)
  case atStart => exact ⟨0, _, 0, 0, [], Nat.zero_le _, Nat.le_refl _, rfl, rfl, TT.nil _ _ _, Below.refl _ _⟩
  case round =>
    obtain ⟨k, co, m, cap, hs, hk, hmk, rfl, rfl, htt, hbel⟩ := hrel
    obtain ⟨wr, hwr⟩ := wname' hbel
    subst hwr
    have hbelw := hbw4.trans (hbel.mono (by omega))
    have hzr := hbel.size
    by_cases hlt : k < n
    · obtain ⟨b, o, l, pa, pc, rfl, hb, hx, hps, g0, g1, g2, g3, g4, g5, g6⟩ := (h4.below hbel (by omega)).at hlt
      obtain ⟨v, hv⟩ := getL_at (i := k) (HBL.out.trans hl.out) hlt
      have hmv : (mixL ls bs 0)[k]? = some (v || isOut l) := by
        rw [mixL_get (by rw [hl.out]; exact hlt), hx, List.getD_eq_getElem?_getD, hv]; simp
      have hgl : g < w4.heap.size := by obtain ⟨g', e1, _, e3⟩ := HOB.out.blk (by omega); simp at e1; omega
      have hcb := (hbel.cell (p := ⟨g, k, none⟩) hgl).trans (HOB.out.cell hmv)
      have hpl := (okS_at HSZ.out hx).2.2
      have HST := Lib.hid (trimL_step hx)
      have HKB : Hid (keepB ls k l = (v || isOut l || l.kind == 1)) := by show _ = _; unfold keepB; rw [hl.out, ← HBS.out, List.getD_eq_getElem?_getD, hv]; rfl
      have HTT := Lib.hid htt
      clear hx hv hmv htt
      cases hm : (v || isOut l)
      · rw [hm] at hcb HKB
        cases k1 : (l.kind == 1)
        · have k1' : ¬ l.kind = 1 := by intro e; rw [e] at k1; simp at k1
          have HK1 : Hid (keepB ls k l = false) := by show _ = _; rw [HKB.out, k1]; rfl
          have HS2 : Hid (trimL ls (k + 1) = trimL ls k) := by show _ = _; rw [HST.out, HK1.out]; simp
          go_wp2_with fail
          go_roundw
          case rel => exact ⟨k + 1, co, m, cap, hs, by omega, by omega, by go_num, rfl, by rw [HS2.out]; exact HTT.out, hbel⟩
          case measure => simp [intOf] <;> omega
        · have HK1 : Hid (keepB ls k l = true) := by show _ = _; rw [HKB.out, k1]; rfl
          have HS2 : Hid (trimL ls (k + 1) = trimL ls k ++ [l]) := by show _ = _; rw [HST.out, HK1.out]; simp
          obtain ⟨W3, hW3⟩ : ∃ W3, W3 = wr.alloc (lineObj l pa pc) := ⟨_, rfl⟩
          have hal3 : Below wr.heap.size wr W3 := by rw [hW3]; exact (Below.refl _ _).alloc (Nat.le_refl _) _
          have hz3 : W3.heap.size = wr.heap.size + 1 := by rw [hW3]; simp
          have hn3 : W3.heap[wr.heap.size]? = some (lineObj l pa pc) := by rw [hW3]; exact heap_alloc_new _ _
          have HW3 := Lib.hid hW3
          clear hW3
          unfold lineObj at hn3 HW3
          have hps3 := hps.below hal3 (by omega)
          have HAL3 := Lib.hid hal3
          have e0 := (blk_at hn3 0).1
          have e1 := (blk_at hn3 1).1
          have e2 := (blk_at hn3 2).1
          have e3 := (blk_at hn3 3).1
          have e4 := (blk_at hn3 4).1
          have e5 := (blk_at hn3 5).1
          have e6 := (blk_at hn3 6).1
          simp at e0 e1 e2 e3 e4 e5 e6
          go_wp2_with (rw [← HW3.out])
          refine (l1OwnS_any _ _ _ _ _ _ hps3 (by omega) (by omega)).mono ?_
          rintro e w5 ⟨po, m5, pc5, rfl, hx5, hb5⟩
          obtain rfl : m5 = l.parts.length := hx5.1.symm
          have hn5 := (hb5.block _ (by omega)).trans hn3
          clear e0 e1 e2 e3 e4 e5 e6 hn3
          have x3 := (blk_at hn5 3).1
          have y3 := (blk_at hn5 3).2
          simp at x3
          obtain ⟨W6, hW6⟩ : ∃ W6, W6 = w5.setCell ⟨wr.heap.size, 3, none⟩ (.slice po l.parts.length pc5) := ⟨_, rfl⟩
          have hn6 := blk_set hn5 3 (.slice po l.parts.length pc5)
          simp at hn6
          rw [← hW6] at hn6
          have hb36 : Below wr.heap.size wr W6 := by rw [hW6]; exact below_set (HAL3.out.trans (hb5.mono (by omega))) _ _ (Nat.le_refl _)
          have hx6 : OwnSt W3.heap.size W6 po l.parts.length pc5 l.parts := by rw [hW6]; exact hx5.other (grown_setC _ ⟨_, _, none⟩ _) (fun p q hp hq => by have := (hx5.rowLt p hp).1; simp at hq; omega)
          have hz6 := hb36.size
          have HW6 := Lib.hid hW6
          clear hW6
          have c0 := (blk_at hn6 0).1
          have c1 := (blk_at hn6 1).1
          have c2 := (blk_at hn6 2).1
          have c3 := (blk_at hn6 3).1
          have c4 := (blk_at hn6 4).1
          have c5 := (blk_at hn6 5).1
          have c6 := (blk_at hn6 6).1
          simp at c0 c1 c2 c3 c4 c5 c6
          clear hn5 hn6
          have htt6 := HTT.out.below hb36 (Nat.le_refl _)
          have hrw : ∀ (i : Nat) (y : Option Addr × Nat) (p : Nat), hs[i]? = some y → rowOf y.1 y.2 = some p → p < W3.heap.size := fun i y p q1 q2 => by have := HTT.out.rows i y p q1 q2; omega
          go_wp2_with (first | rw [← HW6.out] | (at_builtin; refine wpList_append_l rfl _ _ rfl w4.heap.size W3.heap.size _ _ _ hs _ l _ _ rfl (by first | rfl | (simp; rfl)) htt6 hx6 hrw (by omega) (by omega) (by omega) ?_; intro ao' cap' w9 htt9 hg9))
          have hbe9 := (hbel.trans (hb36.mono hzr)).grown hg9 (by omega) (fun q hq => (htt6.row.rowLt q hq).1)
          go_roundw
          case rel => exact ⟨k + 1, ao', m + 1, cap', _, by omega, by omega, by go_num, rfl, by rw [HS2.out]; exact htt9, hbe9⟩
          case measure => simp [intOf] <;> omega
      · rw [hm] at hcb HKB
        have HK1 : Hid (keepB ls k l = true) := by show _ = _; rw [HKB.out]; rfl
        have HS2 : Hid (trimL ls (k + 1) = trimL ls k ++ [l]) := by show _ = _; rw [HST.out, HK1.out]; simp
        obtain ⟨W3, hW3⟩ : ∃ W3, W3 = wr.alloc (lineObj l pa pc) := ⟨_, rfl⟩
        have hal3 : Below wr.heap.size wr W3 := by rw [hW3]; exact (Below.refl _ _).alloc (Nat.le_refl _) _
        have hz3 : W3.heap.size = wr.heap.size + 1 := by rw [hW3]; simp
        have hn3 : W3.heap[wr.heap.size]? = some (lineObj l pa pc) := by rw [hW3]; exact heap_alloc_new _ _
        have HW3 := Lib.hid hW3
        clear hW3
        unfold lineObj at hn3 HW3
        have hps3 := hps.below hal3 (by omega)
        have HAL3 := Lib.hid hal3
        have e0 := (blk_at hn3 0).1
        have e1 := (blk_at hn3 1).1
        have e2 := (blk_at hn3 2).1
        have e3 := (blk_at hn3 3).1
        have e4 := (blk_at hn3 4).1
        have e5 := (blk_at hn3 5).1
        have e6 := (blk_at hn3 6).1
        simp at e0 e1 e2 e3 e4 e5 e6
        go_wp2_with (rw [← HW3.out])
        refine (l1OwnS_any _ _ _ _ _ _ hps3 (by omega) (by omega)).mono ?_
        rintro e w5 ⟨po, m5, pc5, rfl, hx5, hb5⟩
        obtain rfl : m5 = l.parts.length := hx5.1.symm
        have hn5 := (hb5.block _ (by omega)).trans hn3
        clear e0 e1 e2 e3 e4 e5 e6 hn3
        have x3 := (blk_at hn5 3).1
        have y3 := (blk_at hn5 3).2
        simp at x3
        obtain ⟨W6, hW6⟩ : ∃ W6, W6 = w5.setCell ⟨wr.heap.size, 3, none⟩ (.slice po l.parts.length pc5) := ⟨_, rfl⟩
        have hn6 := blk_set hn5 3 (.slice po l.parts.length pc5)
        simp at hn6
        rw [← hW6] at hn6
        have hb36 : Below wr.heap.size wr W6 := by rw [hW6]; exact below_set (HAL3.out.trans (hb5.mono (by omega))) _ _ (Nat.le_refl _)
        have hx6 : OwnSt W3.heap.size W6 po l.parts.length pc5 l.parts := by rw [hW6]; exact hx5.other (grown_setC _ ⟨_, _, none⟩ _) (fun p q hp hq => by have := (hx5.rowLt p hp).1; simp at hq; omega)
        have hz6 := hb36.size
        have HW6 := Lib.hid hW6
        clear hW6
        have c0 := (blk_at hn6 0).1
        have c1 := (blk_at hn6 1).1
        have c2 := (blk_at hn6 2).1
        have c3 := (blk_at hn6 3).1
        have c4 := (blk_at hn6 4).1
        have c5 := (blk_at hn6 5).1
        have c6 := (blk_at hn6 6).1
        simp at c0 c1 c2 c3 c4 c5 c6
        clear hn5 hn6
        have htt6 := HTT.out.below hb36 (Nat.le_refl _)
        have hrw : ∀ (i : Nat) (y : Option Addr × Nat) (p : Nat), hs[i]? = some y → rowOf y.1 y.2 = some p → p < W3.heap.size := fun i y p q1 q2 => by have := HTT.out.rows i y p q1 q2; omega
        go_wp2_with (first | rw [← HW6.out] | (at_builtin; refine wpList_append_l rfl _ _ rfl w4.heap.size W3.heap.size _ _ _ hs _ l _ _ rfl (by first | rfl | (simp; rfl)) htt6 hx6 hrw (by omega) (by omega) (by omega) ?_; intro ao' cap' w9 htt9 hg9))
        have hbe9 := (hbel.trans (hb36.mono hzr)).grown hg9 (by omega) (fun q hq => (htt6.row.rowLt q hq).1)
        go_roundw
        case rel => exact ⟨k + 1, ao', m + 1, cap', _, by omega, by omega, by go_num, rfl, by rw [HS2.out]; exact htt9, hbe9⟩
        case measure => simp [intOf] <;> omega
    · obtain rfl : k = n := by omega
      have HTT := Lib.hid htt
      clear htt
      go_wp2_with fail
      go_ret2
      exact RetTB.eq HF.out (HTT.out.up (by omega)) hbelw
set_option maxRecDepth 100000 in
set_option maxHeartbeats 8000000 in
theorem impl_TrimProgram_any (w : World) (ao : Option Addr) (n c : Nat) (ls : List Ln) (h : Lns w w.heap.size ao n ls) (hs : okS ls) (hnc : n ≤ c) :
    Calls Try.prog 5 #[.slice ao n c] w (RetTB (trimF ls) w) := by
  have hn := h.le
  have hl := Lib.hid h.1
  have HSZ := Lib.hid hs
  go_enter Try.func5, Try.ntmps5
  go_wp2_with fail
  refine (impl_IsProgram_any _ _ _ _ _ h hs hnc).mono ?_
  rintro e w1 ⟨rfl, hb1⟩
  cases hg : laGoodF ls
  · have HF : Hid (trimF ls = ([], false)) := by show _ = _; unfold trimF; rw [hg]; simp
    go_wp2_with fail
    go_ret2
    exact RetTB.eq HF.out (TT.nil _ _ _) hb1
  have HF : Hid (trimF ls = (trimL ls n, true)) := by show _ = _; unfold trimF; rw [if_pos hg, hl.out]
  have h30 := good_len4 hg
  rw [hl.out] at h30
  have HBL := Lib.hid (ndL_length ls n)
  have HG := Lib.hid hg
  clear hg hs
  obtain ⟨Wa, hWa⟩ : ∃ Wa, Wa = w1.alloc (.cells #[] 54) := ⟨_, rfl⟩
  have hba : Below w1.heap.size w1 Wa := by rw [hWa]; exact (Below.refl _ _).alloc (Nat.le_refl _) _
  have hna : Wa.heap[w1.heap.size]? = some (.cells #[] 54 (0, 0)) := by rw [hWa]; exact heap_alloc_new _ _
  have HT0 : Hid (TT w1.heap.size Wa (some ⟨w1.heap.size, 0, none⟩) 0 0 [] []) := TT.nil _ _ _
  have HWa := Lib.hid hWa
  clear hWa hna
  go_wp2_with (rw [← HWa.out])
  have hbwa := hb1.trans (hba.mono hb1.size)
  refine (needed_any _ _ _ _ _ ((h.below hbwa (Nat.le_refl _)).up hbwa.size) HG.out).mono ?_
  rintro e w4 ⟨g, rfl, hob, hb4⟩
  obtain ⟨bs, hbs⟩ : ∃ bs, bs = ndL ls n := ⟨_, rfl⟩
  rw [← hbs] at hob HBL
  have HBS := Lib.hid hbs
  clear hbs
  have hbw4 := hbwa.trans (hb4.mono hbwa.size)
  have hz1 := hb1.size
  have hza := hbwa.size
  have hz4 := hb4.size
  have hz1a := hba.size
  have h4 := h.below hbw4 (Nat.le_refl _)
  have HOB := Lib.hid hob
  clear hob
  go_wp2_with fail
  go_loopw [4, 15] (fun out i wr => ∃ (k : Nat) (co : Option Addr) (m cap : Nat) (hs : List (Option Addr × Nat)), k ≤ n ∧ m ≤ k ∧ i = .int .i64 k ∧ out = .slice co m cap ∧ TT w4.heap.size wr co m cap hs (trimL ls k) ∧ Below w4.heap.size w4 wr) (fun _ i _ => n - (intOf i).toNat)
  case atStart => exact ⟨0, _, 0, 0, [], Nat.zero_le _, Nat.le_refl _, rfl, rfl, TT.nil _ _ _, Below.refl _ _⟩
  case round =>
    obtain ⟨k, co, m, cap, hs, hk, hmk, rfl, rfl, htt, hbel⟩ := hrel
    obtain ⟨wr, hwr⟩ := wname' hbel
    subst hwr
    have hbelw := hbw4.trans (hbel.mono (by omega))
    have hzr := hbel.size
    by_cases hlt : k < n
    · obtain ⟨b, o, l, pa, pc, rfl, hb, hx, hps, g0, g1, g2, g3, g4, g5, g6⟩ := (h4.below hbel (by omega)).at hlt
      obtain ⟨v, hv⟩ := getL_at (i := k) (HBL.out.trans hl.out) hlt
      have hmv := hv
      have hgl : g < w4.heap.size := by obtain ⟨g', e1, _, e3⟩ := HOB.out.blk (by omega); simp at e1; omega
      have hcb := (hbel.cell (p := ⟨g, k, none⟩) hgl).trans (HOB.out.cell hmv)
      have hpl := (okS_at HSZ.out hx).2.2
      have HST := Lib.hid (trimL_step hx)
      have HKB : Hid (keepB ls k l = (v || isOut l || l.kind == 1)) := by show _ = _; unfold keepB; rw [hl.out, ← HBS.out, List.getD_eq_getElem?_getD, hv]; rfl
      have HTT := Lib.hid htt
      clear hx hv hmv htt
      cases v
      · cases k1 : (l.kind == 1)
        · cases k6 : (l.kind == 6)
          · have HK1 : Hid (keepB ls k l = false) := by show _ = _; rw [HKB.out, k1]; simp only [isOut, k6]; rfl
            have HS2 : Hid (trimL ls (k + 1) = trimL ls k) := by show _ = _; rw [HST.out, HK1.out]; simp
            obtain ⟨W3, hW3⟩ : ∃ W3, W3 = wr.alloc (lineObj l pa pc) := ⟨_, rfl⟩
            have hal3 : Below wr.heap.size wr W3 := by rw [hW3]; exact (Below.refl _ _).alloc (Nat.le_refl _) _
            have hz3 : W3.heap.size = wr.heap.size + 1 := by rw [hW3]; simp
            have hn3 : W3.heap[wr.heap.size]? = some (lineObj l pa pc) := by rw [hW3]; exact heap_alloc_new _ _
            have HW3 := Lib.hid hW3
            clear hW3
            unfold lineObj at hn3 HW3
            have hps3 := hps.below hal3 (by omega)
            have HAL3 := Lib.hid hal3
            have e0 := (blk_at hn3 0).1
            have e1 := (blk_at hn3 1).1
            have e2 := (blk_at hn3 2).1
            have e3 := (blk_at hn3 3).1
            have e4 := (blk_at hn3 4).1
            have e5 := (blk_at hn3 5).1
            have e6 := (blk_at hn3 6).1
            simp at e0 e1 e2 e3 e4 e5 e6
            clear hal3
            go_wp2_with (rw [← HW3.out])
            go_roundw
            case rel => exact ⟨k + 1, co, m, cap, hs, by omega, by omega, by go_num, rfl, by rw [HS2.out]; exact HTT.out.below HAL3.out (Nat.le_refl _), hbel.trans (HAL3.out.mono hzr)⟩
            case measure => simp [intOf] <;> omega
          · have HK1 : Hid (keepB ls k l = true) := by show _ = _; rw [HKB.out, k1]; simp only [isOut, k6]; rfl
            obtain ⟨W3, hW3⟩ : ∃ W3, W3 = wr.alloc (lineObj l pa pc) := ⟨_, rfl⟩
            have hal3 : Below wr.heap.size wr W3 := by rw [hW3]; exact (Below.refl _ _).alloc (Nat.le_refl _) _
            have hz3 : W3.heap.size = wr.heap.size + 1 := by rw [hW3]; simp
            have hn3 : W3.heap[wr.heap.size]? = some (lineObj l pa pc) := by rw [hW3]; exact heap_alloc_new _ _
            have HW3 := Lib.hid hW3
            clear hW3
            unfold lineObj at hn3 HW3
            have hps3 := hps.below hal3 (by omega)
            have HAL3 := Lib.hid hal3
            have e0 := (blk_at hn3 0).1
            have e1 := (blk_at hn3 1).1
            have e2 := (blk_at hn3 2).1
            have e3 := (blk_at hn3 3).1
            have e4 := (blk_at hn3 4).1
            have e5 := (blk_at hn3 5).1
            have e6 := (blk_at hn3 6).1
            simp at e0 e1 e2 e3 e4 e5 e6
            clear hal3
            have HS2 : Hid (trimL ls (k + 1) = trimL ls k ++ [l]) := by show _ = _; rw [HST.out, HK1.out]; simp
            go_wp2_with (rw [← HW3.out])
            refine (cloneS_any _ _ _ _ _ _ hps3 (by omega) (by omega)).mono ?_
            rintro e w5 ⟨po, m5, pc5, rfl, hx5, hb5⟩
            obtain rfl : m5 = l.parts.length := hx5.1.symm
            have hn5 := (hb5.block _ (by omega)).trans hn3
            clear e0 e1 e2 e3 e4 e5 e6 hn3
            have x3 := (blk_at hn5 3).1
            have y3 := (blk_at hn5 3).2
            simp at x3
            obtain ⟨W6, hW6⟩ : ∃ W6, W6 = w5.setCell ⟨wr.heap.size, 3, none⟩ (.slice po l.parts.length pc5) := ⟨_, rfl⟩
            have hn6 := blk_set hn5 3 (.slice po l.parts.length pc5)
            simp at hn6
            rw [← hW6] at hn6
            have hb36 : Below wr.heap.size wr W6 := by rw [hW6]; exact below_set (HAL3.out.trans (hb5.mono (by omega))) _ _ (Nat.le_refl _)
            have hx6 : OwnSt W3.heap.size W6 po l.parts.length pc5 l.parts := by rw [hW6]; exact hx5.other (grown_setC _ ⟨_, _, none⟩ _) (fun p q hp hq => by have := (hx5.rowLt p hp).1; simp at hq; omega)
            have hz6 := hb36.size
            have HW6 := Lib.hid hW6
            clear hW6
            have c0 := (blk_at hn6 0).1
            have c1 := (blk_at hn6 1).1
            have c2 := (blk_at hn6 2).1
            have c3 := (blk_at hn6 3).1
            have c4 := (blk_at hn6 4).1
            have c5 := (blk_at hn6 5).1
            have c6 := (blk_at hn6 6).1
            simp at c0 c1 c2 c3 c4 c5 c6
            clear hn5 hn6
            have htt6 := HTT.out.below hb36 (Nat.le_refl _)
            have hrw : ∀ (i : Nat) (y : Option Addr × Nat) (p : Nat), hs[i]? = some y → rowOf y.1 y.2 = some p → p < W3.heap.size := fun i y p q1 q2 => by have := HTT.out.rows i y p q1 q2; omega
            go_wp2_with (first | rw [← HW6.out] | (at_builtin; refine wpList_append_l rfl _ _ rfl w4.heap.size W3.heap.size _ _ _ hs _ l _ _ rfl (by first | rfl | (simp; rfl)) htt6 hx6 hrw (by omega) (by omega) (by omega) ?_; intro ao' cap' w9 htt9 hg9))
            have hbe9 := (hbel.trans (hb36.mono hzr)).grown hg9 (by omega) (fun q hq => (htt6.row.rowLt q hq).1)
            go_roundw
            case rel => exact ⟨k + 1, ao', m + 1, cap', _, by omega, by omega, by go_num, rfl, by rw [HS2.out]; exact htt9, hbe9⟩
            case measure => simp [intOf] <;> omega
        · have HK1 : Hid (keepB ls k l = true) := by show _ = _; rw [HKB.out, k1]; simp
          obtain ⟨W3, hW3⟩ : ∃ W3, W3 = wr.alloc (lineObj l pa pc) := ⟨_, rfl⟩
          have hal3 : Below wr.heap.size wr W3 := by rw [hW3]; exact (Below.refl _ _).alloc (Nat.le_refl _) _
          have hz3 : W3.heap.size = wr.heap.size + 1 := by rw [hW3]; simp
          have hn3 : W3.heap[wr.heap.size]? = some (lineObj l pa pc) := by rw [hW3]; exact heap_alloc_new _ _
          have HW3 := Lib.hid hW3
          clear hW3
          unfold lineObj at hn3 HW3
          have hps3 := hps.below hal3 (by omega)
          have HAL3 := Lib.hid hal3
          have e0 := (blk_at hn3 0).1
          have e1 := (blk_at hn3 1).1
          have e2 := (blk_at hn3 2).1
          have e3 := (blk_at hn3 3).1
          have e4 := (blk_at hn3 4).1
          have e5 := (blk_at hn3 5).1
          have e6 := (blk_at hn3 6).1
          simp at e0 e1 e2 e3 e4 e5 e6
          clear hal3
          have HS2 : Hid (trimL ls (k + 1) = trimL ls k ++ [l]) := by show _ = _; rw [HST.out, HK1.out]; simp
          go_wp2_with (rw [← HW3.out])
          refine (cloneS_any _ _ _ _ _ _ hps3 (by omega) (by omega)).mono ?_
          rintro e w5 ⟨po, m5, pc5, rfl, hx5, hb5⟩
          obtain rfl : m5 = l.parts.length := hx5.1.symm
          have hn5 := (hb5.block _ (by omega)).trans hn3
          clear e0 e1 e2 e3 e4 e5 e6 hn3
          have x3 := (blk_at hn5 3).1
          have y3 := (blk_at hn5 3).2
          simp at x3
          obtain ⟨W6, hW6⟩ : ∃ W6, W6 = w5.setCell ⟨wr.heap.size, 3, none⟩ (.slice po l.parts.length pc5) := ⟨_, rfl⟩
          have hn6 := blk_set hn5 3 (.slice po l.parts.length pc5)
          simp at hn6
          rw [← hW6] at hn6
          have hb36 : Below wr.heap.size wr W6 := by rw [hW6]; exact below_set (HAL3.out.trans (hb5.mono (by omega))) _ _ (Nat.le_refl _)
          have hx6 : OwnSt W3.heap.size W6 po l.parts.length pc5 l.parts := by rw [hW6]; exact hx5.other (grown_setC _ ⟨_, _, none⟩ _) (fun p q hp hq => by have := (hx5.rowLt p hp).1; simp at hq; omega)
          have hz6 := hb36.size
          have HW6 := Lib.hid hW6
          clear hW6
          have c0 := (blk_at hn6 0).1
          have c1 := (blk_at hn6 1).1
          have c2 := (blk_at hn6 2).1
          have c3 := (blk_at hn6 3).1
          have c4 := (blk_at hn6 4).1
          have c5 := (blk_at hn6 5).1
          have c6 := (blk_at hn6 6).1
          simp at c0 c1 c2 c3 c4 c5 c6
          clear hn5 hn6
          have htt6 := HTT.out.below hb36 (Nat.le_refl _)
          have hrw : ∀ (i : Nat) (y : Option Addr × Nat) (p : Nat), hs[i]? = some y → rowOf y.1 y.2 = some p → p < W3.heap.size := fun i y p q1 q2 => by have := HTT.out.rows i y p q1 q2; omega
          go_wp2_with (first | rw [← HW6.out] | (at_builtin; refine wpList_append_l rfl _ _ rfl w4.heap.size W3.heap.size _ _ _ hs _ l _ _ rfl (by first | rfl | (simp; rfl)) htt6 hx6 hrw (by omega) (by omega) (by omega) ?_; intro ao' cap' w9 htt9 hg9))
          have hbe9 := (hbel.trans (hb36.mono hzr)).grown hg9 (by omega) (fun q hq => (htt6.row.rowLt q hq).1)
          go_roundw
          case rel => exact ⟨k + 1, ao', m + 1, cap', _, by omega, by omega, by go_num, rfl, by rw [HS2.out]; exact htt9, hbe9⟩
          case measure => simp [intOf] <;> omega
      · have HK1 : Hid (keepB ls k l = true) := by show _ = _; rw [HKB.out]; simp
        obtain ⟨W3, hW3⟩ : ∃ W3, W3 = wr.alloc (lineObj l pa pc) := ⟨_, rfl⟩
        have hal3 : Below wr.heap.size wr W3 := by rw [hW3]; exact (Below.refl _ _).alloc (Nat.le_refl _) _
        have hz3 : W3.heap.size = wr.heap.size + 1 := by rw [hW3]; simp
        have hn3 : W3.heap[wr.heap.size]? = some (lineObj l pa pc) := by rw [hW3]; exact heap_alloc_new _ _
        have HW3 := Lib.hid hW3
        clear hW3
        unfold lineObj at hn3 HW3
        have hps3 := hps.below hal3 (by omega)
        have HAL3 := Lib.hid hal3
        have e0 := (blk_at hn3 0).1
        have e1 := (blk_at hn3 1).1
        have e2 := (blk_at hn3 2).1
        have e3 := (blk_at hn3 3).1
        have e4 := (blk_at hn3 4).1
        have e5 := (blk_at hn3 5).1
        have e6 := (blk_at hn3 6).1
        simp at e0 e1 e2 e3 e4 e5 e6
        clear hal3
        have HS2 : Hid (trimL ls (k + 1) = trimL ls k ++ [l]) := by show _ = _; rw [HST.out, HK1.out]; simp
        go_wp2_with (rw [← HW3.out])
        refine (cloneS_any _ _ _ _ _ _ hps3 (by omega) (by omega)).mono ?_
        rintro e w5 ⟨po, m5, pc5, rfl, hx5, hb5⟩
        obtain rfl : m5 = l.parts.length := hx5.1.symm
        have hn5 := (hb5.block _ (by omega)).trans hn3
        clear e0 e1 e2 e3 e4 e5 e6 hn3
        have x3 := (blk_at hn5 3).1
        have y3 := (blk_at hn5 3).2
        simp at x3
        obtain ⟨W6, hW6⟩ : ∃ W6, W6 = w5.setCell ⟨wr.heap.size, 3, none⟩ (.slice po l.parts.length pc5) := ⟨_, rfl⟩
        have hn6 := blk_set hn5 3 (.slice po l.parts.length pc5)
        simp at hn6
        rw [← hW6] at hn6
        have hb36 : Below wr.heap.size wr W6 := by rw [hW6]; exact below_set (HAL3.out.trans (hb5.mono (by omega))) _ _ (Nat.le_refl _)
        have hx6 : OwnSt W3.heap.size W6 po l.parts.length pc5 l.parts := by rw [hW6]; exact hx5.other (grown_setC _ ⟨_, _, none⟩ _) (fun p q hp hq => by have := (hx5.rowLt p hp).1; simp at hq; omega)
        have hz6 := hb36.size
        have HW6 := Lib.hid hW6
        clear hW6
        have c0 := (blk_at hn6 0).1
        have c1 := (blk_at hn6 1).1
        have c2 := (blk_at hn6 2).1
        have c3 := (blk_at hn6 3).1
        have c4 := (blk_at hn6 4).1
        have c5 := (blk_at hn6 5).1
        have c6 := (blk_at hn6 6).1
        simp at c0 c1 c2 c3 c4 c5 c6
        clear hn5 hn6
        have htt6 := HTT.out.below hb36 (Nat.le_refl _)
        have hrw : ∀ (i : Nat) (y : Option Addr × Nat) (p : Nat), hs[i]? = some y → rowOf y.1 y.2 = some p → p < W3.heap.size := fun i y p q1 q2 => by have := HTT.out.rows i y p q1 q2; omega
        go_wp2_with (first | rw [← HW6.out] | (at_builtin; refine wpList_append_l rfl _ _ rfl w4.heap.size W3.heap.size _ _ _ hs _ l _ _ rfl (by first | rfl | (simp; rfl)) htt6 hx6 hrw (by omega) (by omega) (by omega) ?_; intro ao' cap' w9 htt9 hg9))
        have hbe9 := (hbel.trans (hb36.mono hzr)).grown hg9 (by omega) (fun q hq => (htt6.row.rowLt q hq).1)
        go_roundw
        case rel => exact ⟨k + 1, ao', m + 1, cap', _, by omega, by omega, by go_num, rfl, by rw [HS2.out]; exact htt9, hbe9⟩
        case measure => simp [intOf] <;> omega
    · obtain rfl : k = n := by omega
      have HTT := Lib.hid htt
      clear htt
      go_wp2_with fail
      go_ret2
      exact RetTB.eq HF.out (HTT.out.up (by omega)) hbelw
end Go.Proofs.Ytdlddkgmjpmenaa
