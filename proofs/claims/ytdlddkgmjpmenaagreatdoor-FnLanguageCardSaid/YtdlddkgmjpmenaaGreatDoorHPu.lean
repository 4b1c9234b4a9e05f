/-
  Texts of programs: the program's text.
-/
import Derived.Test.YtdlddkgmjpmenaaGreatDoorQPt2
import Derived.Test.YtdlddkgmjpmenaaGreatDoorShelf
import Derived.Lib.AppendIntMem
import Derived.Deep.RegionHeld3
import Derived.StillTailTactics
import Derived.Test.YtdlddkgmjpmenaaGreatDoorHWd
namespace Go.Proofs.YtdlddkgmjpmenaaGreatDoor
open Go.RowKit Go.Sort
set_option linter.unusedVariables false
set_option linter.unusedSimpArgs false

abbrev TabB (w : World) : Prop := Lib.TabBelow Tryz.prog w.heap.size w "internal/strconv.uint64pow10" .u64 Lib.pow10Tab
theorem itoa_any (n : Int) (h0 : 0 ≤ n) (h1 : n ≤ 9999) (W : World) (ht : Lib.TabIs Tryz.prog W "internal/strconv.uint64pow10" .u64 Lib.pow10Tab) : Calls Tryz.prog 84 #[.int .i64 n] W (RetT (numT n) W) := by
  refine (Tryz.strconv_Itoa n (by omega) (by omega) W ht).mono ?_
  rintro e w' ⟨rfl, k, os, rfl⟩
  refine ⟨ret_str ?_, Lib.below_grow _ _ (Nat.le_refl _) k os⟩
  unfold Lib.itoa numT bt
  rw [if_neg (by omega)]
def joinB (xs : List ByteArray) : ByteArray := ⟨(Lib.join (xs.map (·.data.toList)) [32]).toArray⟩
theorem join2 (a b : ByteArray) : joinB [a, b] = a ++ ByteArray.mk #[32] ++ b := by
  apply ByteArray.ext
  simp [joinB, Lib.join_cons, Lib.joinTail]
theorem join3 (a b c : ByteArray) : joinB [a, b, c] = a ++ ByteArray.mk #[32] ++ b ++ ByteArray.mk #[32] ++ c := by
  apply ByteArray.ext
  simp [joinB, Lib.join_cons, Lib.joinTail]
theorem join4 (a b c d : ByteArray) : joinB [a, b, c, d] = a ++ ByteArray.mk #[32] ++ b ++ ByteArray.mk #[32] ++ c ++ ByteArray.mk #[32] ++ d := by
  apply ByteArray.ext
  simp [joinB, Lib.join_cons, Lib.joinTail]
theorem join5 (a b c d e : ByteArray) : joinB [a, b, c, d, e] = a ++ ByteArray.mk #[32] ++ b ++ ByteArray.mk #[32] ++ c ++ ByteArray.mk #[32] ++ d ++ ByteArray.mk #[32] ++ e := by
  apply ByteArray.ext
  simp [joinB, Lib.join_cons, Lib.joinTail]
theorem join_any (g c : Nat) (xs : List ByteArray) (E : ByteArray) (hE : joinB xs = E) (hs : E.size ≤ 100000000) (hl : xs.length ≤ 100) (W : World) (hcells : ∀ (j : Nat) (x : ByteArray), xs[j]? = some x → W.cell? ⟨g, 0 + j, none⟩ = some (.string x)) (hg : g < W.heap.size) (hc : xs.length ≤ c) :
    Calls Tryz.prog 85 #[.slice (some ⟨g, 0, none⟩) xs.length c, .string ⟨#[32]⟩] W (RetT E W) := by
  subst hE
  have h : (joinB xs).size = (Lib.join (xs.map (·.data.toList)) [32]).length := by simp [joinB, ByteArray.size]
  refine (Tryz.strings_Join g 0 c xs ⟨#[32]⟩ W hcells hg (by omega) hc (by show (Lib.join (xs.map (·.data.toList)) [32]).length ≤ _; omega)).mono ?_
  rintro e w' ⟨rfl, hb⟩
  exact ⟨rfl, hb⟩
theorem row_cells {W : World} {g : Nat} {xs : List ByteArray} (h : W.heap[g]? = some (.cells (xs.map Value.string).toArray 9 (0, 0))) : ∀ (j : Nat) (x : ByteArray), xs[j]? = some x → W.cell? ⟨g, 0 + j, none⟩ = some (.string x) := by
  intro j x hx
  rw [Nat.zero_add, cell_of_row W g j _ _ (0, 0) h]
  simp [hx]
theorem lineE_size {x : Ln} (z1 : x.name.size ≤ 1048576) (z2 : x.op.size ≤ 1048576) (hp : ∀ p ∈ x.parts, p.size ≤ 1048576) (h1 : (x.parts.length : Int) = laParts x.kind) (q2 : x.kind = 1 → (0 ≤ x.party ∧ x.party ≤ 1) ∧ (1 ≤ x.width ∧ x.width ≤ 10)) (q3 : x.kind = 2 → (1 ≤ x.width ∧ x.width ≤ 10) ∧ (0 ≤ x.value ∧ x.value ≤ 1023)) : (lineE x).size ≤ 10000000 := by
  have hg : ∀ j, (x.parts.getD j ByteArray.empty).size ≤ 1048576 := fun j => by
    rw [List.getD_eq_getElem?_getD]
    cases hj : x.parts[j]? with
    | none => simp
    | some p => exact hp p (List.mem_of_getElem? hj)
  have a := hg 0
  have b := hg 1
  have c := hg 2
  have n1 := numT_size x.party
  have n2 := numT_size x.width
  have n3 := numT_size x.value
  unfold lineE
  split
  · next e => have := q2 e; simp only [ByteArray.size_append]; show 6 + _ + 1 + _ + 1 + _ ≤ _; omega
  split
  · next e => have := q3 e; simp only [ByteArray.size_append]; show 6 + _ + 1 + _ + 1 + _ ≤ _; omega
  split
  · simp only [ByteArray.size_append]; show 4 + _ + 1 + _ + 1 + _ + 1 + _ ≤ _; omega
  split
  · simp only [ByteArray.size_append]; show 4 + _ + 1 + _ ≤ _; omega
  split
  · simp only [ByteArray.size_append]; show 5 + _ + 1 + _ + 1 + _ + 1 + _ ≤ _; omega
  · simp only [ByteArray.size_append]; show 4 + _ ≤ _; omega
end Go.Proofs.YtdlddkgmjpmenaaGreatDoor
/-
  Texts of programs: a line's text, by the program.
-/
namespace Go.Proofs.YtdlddkgmjpmenaaGreatDoor
open Go.RowKit Go.Sort
set_option linter.unusedVariables false
set_option linter.unusedSimpArgs false

theorem ownC_capLe {z B : Nat} {e : TypeId} {w : World} {ao : Option Addr} {n cap : Nat} {cs : List Value} (h : OwnC e z B w ao n cap cs) : n ≤ cap := by
  rcases h with ⟨_, rfl, rfl⟩ | ⟨g, rfl, hr⟩
  · exact Nat.le_refl _
  · rcases hr.2 with ⟨hv, h0⟩ | ⟨g2, cap2, cur, hv, _, _, hn', _⟩
    · omega
    · simp only [Value.slice.injEq] at hv
      obtain ⟨_, _, rfl⟩ := hv
      omega
theorem below_ad2 (w : World) (o : Obj) : Below w.heap.size w (w.alloc o).drew := bdrewN ((Below.refl _ _).alloc (Nat.le_refl _) _) 1
theorem strs_oneCell (ss : List ByteArray) : ∀ u ∈ ss.map Value.string, u.oneCell' = true := by
  intro u hu
  rw [List.mem_map] at hu
  obtain ⟨x, _, rfl⟩ := hu
  simp [Value.oneCell']
theorem wpList_append_ss {w : World} {ops : Array Oper} {rest : List Oper} {o : Oper} {a : Act} {Q : Exit → Act → World → Prop} (hgd : o.guard = none) (s x : Operand)
    (ho : o.op = .call { callee := .builtin .append, args := #[s, x], argTypes := #[45, 45] })
    (B : Nat) (ao : Option Addr) (n cap : Nat) (xs : List ByteArray) (C : Nat) (xo : Option Addr) (m c : Nat) (ys : List ByteArray) (hs : a.eval s = .slice ao n cap) (hx : a.eval x = .slice xo m c)
    (hown : OwnSt B w ao n cap xs) (hy : Strs w C xo m ys) (hn : n + m < 999999990) (hB : B ≤ w.heap.size)
    (h : ∀ ao' cap' w', OwnSt B w' ao' (n + m) cap' (xs ++ ys) → w.grownBy w' (rowOf ao cap) → wpList Tryz.prog ops Q rest (a.put o.dst (.slice ao' (n + m) cap')) w') :
    wpList Tryz.prog ops Q (o :: rest) a w :=
  wpList_append_any hgd s x 45 9 (.string ⟨#[]⟩) 1 16 Tryz.underlying45 str_info rfl (by decide) ho B ao n cap (xs.map Value.string) hs hown.2.2 C xo m c (ys.map Value.string) hx (by simp [hy.1]) hy.2.2
    (strs_oneCell _) (by decide) (by omega) hB fun ao' cap' w' h1 h2 => h ao' cap' w' ⟨by simp [hown.1, hy.1], by omega, by simpa using h1⟩ h2
set_option maxRecDepth 20000 in
set_option maxHeartbeats 8000000 in
theorem lineText_any (w : World) (B : Nat) (x : Ln) (pa : Option Addr) (pc : Nat) (hps : Strs w B pa x.parts.length x.parts) (hB : B ≤ w.heap.size)
    (z1 : x.name.size ≤ 1048576) (z2 : x.op.size ≤ 1048576) (hp : ∀ p ∈ x.parts, p.size ≤ 1048576) (q1 : (x.parts.length : Int) = laParts x.kind) (q2 : x.kind = 1 → (0 ≤ x.party ∧ x.party ≤ 1) ∧ (1 ≤ x.width ∧ x.width ≤ 10)) (q3 : x.kind = 2 → (1 ≤ x.width ∧ x.width ≤ 10) ∧ (0 ≤ x.value ∧ x.value ≤ 1023)) (q4 : 1 ≤ x.kind ∧ x.kind ≤ 6) (ht : TabB w) :
    Calls Tryz.prog 52 #[lineV x pa pc] w (RetT (lineT x) w) := by
  have hes := lineE_size z1 z2 hp q1 q2 q3
  obtain ⟨E, hE⟩ : ∃ E, E = lineE x := ⟨_, rfl⟩
  rw [← hE] at hes
  have HT : Hid (lineT x = E ++ ByteArray.mk #[10]) := by show _ = _; rw [hE]; rfl
  have hM : ¬ 9223372036854775807 < E.size + 1 := by omega
  obtain ⟨W1, hW1⟩ : ∃ W1, W1 = w.alloc (lineObj x pa pc) := ⟨_, rfl⟩
  have hb1 : Below w.heap.size w W1 := by rw [hW1]; exact (Below.refl _ _).alloc (Nat.le_refl _) _
  have hx1 : BoxL W1 w.heap.size x pa pc := by rw [hW1]; exact boxL_new _ _ _ _
  have hz1 : w.heap.size < W1.heap.size := by rw [hW1]; simp
  have HW1 := Lib.hid hW1
  clear hW1
  obtain ⟨W2, hW2⟩ : ∃ W2, W2 = W1.alloc (.cells #[] 9) := ⟨_, rfl⟩
  have hb2 : Below W1.heap.size W1 W2 := by rw [hW2]; exact (Below.refl _ _).alloc (Nat.le_refl _) _
  have hbx := hx1.below hb2 hz1
  have hz2 : W1.heap.size < W2.heap.size := by rw [hW2]; simp
  have HW2 := Lib.hid hW2
  clear hW2 hx1
  have hbw := hb1.trans (hb2.mono hb1.size)
  have hps2 := hps.below hbw hB
  have hwz : w.heap.size < W2.heap.size := by omega
  obtain ⟨K, nm, op, ps, py, wd, vl⟩ := x
  unfold lineObj at HW1
  unfold lineV
  dsimp only at q1 q2 q3 q4 z1 z2 hp hps2 HW1
  obtain ⟨c0, c1, c2, c3, c4, c5, c6⟩ := hbx
  dsimp only at c0 c1 c2 c3 c4 c5 c6
  have HTB := Lib.hid ht
  have HE := Lib.hid hE
  have HES := Lib.hid hes
  clear hps ht hb1 hb2 hE hes z1 z2
  by_cases k1 : K = 1
  · subst k1
    -- <A>
    obtain ⟨⟨y1, y2⟩, ⟨y3, y4⟩⟩ := q2 rfl
    have hbd : Below W2.heap.size W2 W2.drew := bdrewN (Below.refl _ _) 1
    have HBD := Lib.hid hbd
    have HBW := Lib.hid hbw
    have HS : Hid (∀ W' : World, Below W2.heap.size W2 W' → W'.cell? ⟨w.heap.size, 1, none⟩ = some (.string nm) ∧ W'.cell? ⟨w.heap.size, 4, none⟩ = some (.int .i64 py) ∧ W'.cell? ⟨w.heap.size, 5, none⟩ = some (.int .i64 wd) ∧ Below W2.heap.size W2 W') := fun W' h => ⟨(h.cell (p := ⟨_, 1, none⟩) hwz).trans c1, (h.cell (p := ⟨_, 4, none⟩) hwz).trans c4, (h.cell (p := ⟨_, 5, none⟩) hwz).trans c5, h⟩
    have HJ : Hid (joinB [⟨#[105, 110, 112, 117, 116]⟩, numT py, nm, numT wd] = E) := by show _ = _; rw [join4, HE.out]; rfl
    clear hbd hbw q1 q2 q3 hp
    go_enter Tryz.func52, Tryz.ntmps52
    go_wp2_with (first | rw [← HW1.out] | rw [← HW2.out])
    go_region_held3 (fun W' => W'.cell? ⟨w.heap.size, 1, none⟩ = some (.string nm) ∧ W'.cell? ⟨w.heap.size, 4, none⟩ = some (.int .i64 py) ∧ W'.cell? ⟨w.heap.size, 5, none⟩ = some (.int .i64 wd) ∧ Below W2.heap.size W2 W') (first | exact HS.out _ HBD.out | exact HS.out _ (by assumption) | exact HS.out _ (hb4'.alloc hb4'.size _))
      (first
        | (go_at_call 84; have hq := hb3'; refine (itoa_any _ (by omega) (by omega) _ (HTB.out _ (HBW.out.trans (hq.mono HBW.out.size)))).mono ?_; rintro e w4 ⟨rfl, hb4⟩; have hb4' := hq.trans (hb4.mono hq.size))
        | (go_at_call 84; refine (itoa_any _ (by omega) (by omega) _ (HTB.out _ (HBW.out.trans (HBD.out.mono HBW.out.size)))).mono ?_; rintro e w3 ⟨rfl, hb3⟩; have hb3' := HBD.out.trans (hb3.mono (Nat.le_refl _))))
    all_goals
      have hrow := heap_alloc_new w4 (.cells (([⟨#[105, 110, 112, 117, 116]⟩, numT py, nm, numT wd] : List ByteArray).map Value.string).toArray 9)
      go_wp2_with fail
      refine (join_any w4.heap.size 4 [⟨#[105, 110, 112, 117, 116]⟩, numT py, nm, numT wd] E HJ.out (by have := HES.out; omega) (by simp) _ (row_cells hrow) (by simp) (by simp)).mono ?_
      rintro e w6 ⟨rfl, hb6⟩
      have hB4 := HBW.out.trans (hb4'.mono HBW.out.size)
      have hB5 := hB4.alloc hB4.size (.cells (([⟨#[105, 110, 112, 117, 116]⟩, numT py, nm, numT wd] : List ByteArray).map Value.string).toArray 9)
      have hB6 := hB5.trans (hb6.mono hB5.size)
      go_wp2_with fail
      go_ret
      exact ⟨ret_str HT.out.symm, hB6⟩
    -- </A>
  by_cases k2 : K = 2
  · subst k2
    -- <A>
    obtain ⟨⟨y1, y2⟩, ⟨y3, y4⟩⟩ := q3 rfl
    have hbd : Below W2.heap.size W2 W2.drew := bdrewN (Below.refl _ _) 1
    have HBD := Lib.hid hbd
    have HBW := Lib.hid hbw
    have HS : Hid (∀ W' : World, Below W2.heap.size W2 W' → W'.cell? ⟨w.heap.size, 1, none⟩ = some (.string nm) ∧ W'.cell? ⟨w.heap.size, 5, none⟩ = some (.int .i64 wd) ∧ W'.cell? ⟨w.heap.size, 6, none⟩ = some (.int .i64 vl) ∧ Below W2.heap.size W2 W') := fun W' h => ⟨(h.cell (p := ⟨_, 1, none⟩) hwz).trans c1, (h.cell (p := ⟨_, 5, none⟩) hwz).trans c5, (h.cell (p := ⟨_, 6, none⟩) hwz).trans c6, h⟩
    have HJ : Hid (joinB [⟨#[99, 111, 110, 115, 116]⟩, nm, numT wd, numT vl] = E) := by show _ = _; rw [join4, HE.out]; rfl
    clear hbd hbw q1 q2 q3 hp
    go_enter Tryz.func52, Tryz.ntmps52
    go_wp2_with (first | rw [← HW1.out] | rw [← HW2.out])
    go_region_held3 (fun W' => W'.cell? ⟨w.heap.size, 1, none⟩ = some (.string nm) ∧ W'.cell? ⟨w.heap.size, 5, none⟩ = some (.int .i64 wd) ∧ W'.cell? ⟨w.heap.size, 6, none⟩ = some (.int .i64 vl) ∧ Below W2.heap.size W2 W') (first | exact HS.out _ HBD.out | exact HS.out _ (by assumption) | exact HS.out _ (hb4'.alloc hb4'.size _))
      (first
        | (go_at_call 84; have hq := hb3'; refine (itoa_any _ (by omega) (by omega) _ (HTB.out _ (HBW.out.trans (hq.mono HBW.out.size)))).mono ?_; rintro e w4 ⟨rfl, hb4⟩; have hb4' := hq.trans (hb4.mono hq.size))
        | (go_at_call 84; refine (itoa_any _ (by omega) (by omega) _ (HTB.out _ (HBW.out.trans (HBD.out.mono HBW.out.size)))).mono ?_; rintro e w3 ⟨rfl, hb3⟩; have hb3' := HBD.out.trans (hb3.mono (Nat.le_refl _))))
    all_goals
      have hrow := heap_alloc_new w4 (.cells (([⟨#[99, 111, 110, 115, 116]⟩, nm, numT wd, numT vl] : List ByteArray).map Value.string).toArray 9)
      go_wp2_with fail
      refine (join_any w4.heap.size 4 [⟨#[99, 111, 110, 115, 116]⟩, nm, numT wd, numT vl] E HJ.out (by have := HES.out; omega) (by simp) _ (row_cells hrow) (by simp) (by simp)).mono ?_
      rintro e w6 ⟨rfl, hb6⟩
      have hB4 := HBW.out.trans (hb4'.mono HBW.out.size)
      have hB5 := hB4.alloc hB4.size (.cells (([⟨#[99, 111, 110, 115, 116]⟩, nm, numT wd, numT vl] : List ByteArray).map Value.string).toArray 9)
      have hB6 := hB5.trans (hb6.mono hB5.size)
      go_wp2_with fail
      go_ret
      exact ⟨ret_str HT.out.symm, hB6⟩
    -- </A>
  by_cases k3 : K = 3
  · subst k3
    -- <A>
    have q0 : ps.length = 2 := by have : (ps.length : Int) = 2 := q1; omega
    obtain ⟨p0, p1, rfl⟩ := two_of q0
    obtain ⟨bp, fp, rfl, hbp, hpc⟩ := strs_cells hps2 (by simp)
    have hbpz : bp < W2.heap.size := by omega
    have u0 : W2.cell? ⟨bp, fp, none⟩ = some (.string p0) := by simpa using hpc 0 p0 rfl
    have u1 : W2.cell? ⟨bp, fp + 1, none⟩ = some (.string p1) := by simpa using hpc 1 p1 rfl
    clear hpc q0
    simp only [List.length_cons, List.length_nil, Nat.zero_add, Nat.reduceAdd] at c3 HW1
    have hbd : Below W2.heap.size W2 W2.drew := bdrewN (Below.refl _ _) 1
    have HBD := Lib.hid hbd
    have HBW := Lib.hid hbw
    have HS : Hid (∀ W' : World, Below W2.heap.size W2 W' → W'.cell? ⟨w.heap.size, 1, none⟩ = some (.string nm) ∧ W'.cell? ⟨w.heap.size, 2, none⟩ = some (.string op) ∧ W'.cell? ⟨w.heap.size, 3, none⟩ = some (.slice (some ⟨bp, fp, none⟩) 2 pc) ∧ W'.cell? ⟨bp, fp, none⟩ = some (.string p0) ∧ W'.cell? ⟨bp, fp + 1, none⟩ = some (.string p1) ∧ Below W2.heap.size W2 W') := fun W' h => ⟨(h.cell (p := ⟨_, 1, none⟩) hwz).trans c1, (h.cell (p := ⟨_, 2, none⟩) hwz).trans c2, (h.cell (p := ⟨_, 3, none⟩) hwz).trans c3, (h.cell (p := ⟨bp, _, none⟩) hbpz).trans u0, (h.cell (p := ⟨bp, _, none⟩) hbpz).trans u1, h⟩
    have HJ : Hid (joinB [⟨#[108, 101, 116]⟩, nm, p0, op, p1] = E) := by show _ = _; rw [join5, HE.out]; rfl
    clear hbd hbw q1 q2 q3 hp
    go_enter Tryz.func52, Tryz.ntmps52
    go_wp2_with (first | rw [← HW1.out] | rw [← HW2.out])
    go_region_held3 (fun W' => W'.cell? ⟨w.heap.size, 1, none⟩ = some (.string nm) ∧ W'.cell? ⟨w.heap.size, 2, none⟩ = some (.string op) ∧ W'.cell? ⟨w.heap.size, 3, none⟩ = some (.slice (some ⟨bp, fp, none⟩) 2 pc) ∧ W'.cell? ⟨bp, fp, none⟩ = some (.string p0) ∧ W'.cell? ⟨bp, fp + 1, none⟩ = some (.string p1) ∧ Below W2.heap.size W2 W') (first | exact HS.out _ HBD.out | exact HS.out _ (by assumption) | exact HS.out _ (HBD.out.alloc HBD.out.size _) | exact HS.out _ (below_ad2 _ _)) (fail)
    all_goals
      have hrow := heap_alloc_new W2.drew (.cells (([⟨#[108, 101, 116]⟩, nm, p0, op, p1] : List ByteArray).map Value.string).toArray 9)
      go_wp2_with fail
      refine (join_any W2.drew.heap.size 5 [⟨#[108, 101, 116]⟩, nm, p0, op, p1] E HJ.out (by have := HES.out; omega) (by simp) _ (row_cells hrow) (by simp) (by simp)).mono ?_
      rintro e w6 ⟨rfl, hb6⟩
      have hB4 := HBW.out.trans (HBD.out.mono HBW.out.size)
      have hB5 := hB4.alloc hB4.size (.cells (([⟨#[108, 101, 116]⟩, nm, p0, op, p1] : List ByteArray).map Value.string).toArray 9)
      have hB6 := hB5.trans (hb6.mono hB5.size)
      go_wp2_with fail
      go_ret
      exact ⟨ret_str HT.out.symm, hB6⟩
    -- </A>
  by_cases k4 : K = 4
  · subst k4
    -- <A>
    have q0 : ps.length = 1 := by have : (ps.length : Int) = 1 := q1; omega
    obtain ⟨p0, rfl⟩ := one_of q0
    obtain ⟨bp, fp, rfl, hbp, hpc⟩ := strs_cells hps2 (by simp)
    have hbpz : bp < W2.heap.size := by omega
    have u0 : W2.cell? ⟨bp, fp, none⟩ = some (.string p0) := by simpa using hpc 0 p0 rfl
    clear hpc q0
    simp only [List.length_cons, List.length_nil, Nat.zero_add, Nat.reduceAdd] at c3 HW1
    have hbd : Below W2.heap.size W2 W2.drew := bdrewN (Below.refl _ _) 1
    have HBD := Lib.hid hbd
    have HBW := Lib.hid hbw
    have HS : Hid (∀ W' : World, Below W2.heap.size W2 W' → W'.cell? ⟨w.heap.size, 1, none⟩ = some (.string nm) ∧ W'.cell? ⟨w.heap.size, 3, none⟩ = some (.slice (some ⟨bp, fp, none⟩) 1 pc) ∧ W'.cell? ⟨bp, fp, none⟩ = some (.string p0) ∧ Below W2.heap.size W2 W') := fun W' h => ⟨(h.cell (p := ⟨_, 1, none⟩) hwz).trans c1, (h.cell (p := ⟨_, 3, none⟩) hwz).trans c3, (h.cell (p := ⟨bp, _, none⟩) hbpz).trans u0, h⟩
    have HJ : Hid (joinB [⟨#[110, 111, 116]⟩, nm, p0] = E) := by show _ = _; rw [join3, HE.out]; rfl
    clear hbd hbw q1 q2 q3 hp
    go_enter Tryz.func52, Tryz.ntmps52
    go_wp2_with (first | rw [← HW1.out] | rw [← HW2.out])
    go_region_held3 (fun W' => W'.cell? ⟨w.heap.size, 1, none⟩ = some (.string nm) ∧ W'.cell? ⟨w.heap.size, 3, none⟩ = some (.slice (some ⟨bp, fp, none⟩) 1 pc) ∧ W'.cell? ⟨bp, fp, none⟩ = some (.string p0) ∧ Below W2.heap.size W2 W') (first | exact HS.out _ HBD.out | exact HS.out _ (by assumption) | exact HS.out _ (HBD.out.alloc HBD.out.size _) | exact HS.out _ (below_ad2 _ _)) (fail)
    all_goals
      have hrow := heap_alloc_new W2.drew (.cells (([⟨#[110, 111, 116]⟩, nm, p0] : List ByteArray).map Value.string).toArray 9)
      go_wp2_with fail
      refine (join_any W2.drew.heap.size 3 [⟨#[110, 111, 116]⟩, nm, p0] E HJ.out (by have := HES.out; omega) (by simp) _ (row_cells hrow) (by simp) (by simp)).mono ?_
      rintro e w6 ⟨rfl, hb6⟩
      have hB4 := HBW.out.trans (HBD.out.mono HBW.out.size)
      have hB5 := hB4.alloc hB4.size (.cells (([⟨#[110, 111, 116]⟩, nm, p0] : List ByteArray).map Value.string).toArray 9)
      have hB6 := hB5.trans (hb6.mono hB5.size)
      go_wp2_with fail
      go_ret
      exact ⟨ret_str HT.out.symm, hB6⟩
    -- </A>
  by_cases k5 : K = 5
  · subst k5
    -- <A>
    have q0 : ps.length = 3 := by have : (ps.length : Int) = 3 := q1; omega
    obtain ⟨p0, p1, p2, rfl⟩ := three_of q0
    simp only [List.length_cons, List.length_nil, Nat.zero_add, Nat.reduceAdd] at c3 HW1
    have hbd : Below W2.heap.size W2 W2.drew := bdrewN (Below.refl _ _) 1
    have HBD := Lib.hid hbd
    have HBW := Lib.hid hbw
    have HJ : Hid (joinB [⟨#[112, 105, 99, 107]⟩, nm, p0, p1, p2] = E) := by show _ = _; rw [join5, HE.out]; rfl
    clear hbd hbw q1 q2 q3 hp
    obtain ⟨W3, hW3⟩ : ∃ W3, W3 = W2.alloc (.cells #[.string ⟨#[112, 105, 99, 107]⟩, .string nm] 9) := ⟨_, rfl⟩
    have hb3 : Below W2.heap.size W2 W3 := by rw [hW3]; exact (Below.refl _ _).alloc (Nat.le_refl _) _
    have hO3 : OwnSt W2.heap.size W3 (some ⟨W2.heap.size, 0, none⟩) 2 2 [⟨#[112, 105, 99, 107]⟩, nm] := by rw [hW3]; exact ⟨rfl, by decide, .inr ⟨_, rfl, rfl, .inr ⟨W2.heap.size, 2, _, rfl, Nat.le_refl _, heap_alloc_new W2 _, Nat.le_refl _, by decide, rfl, rfl⟩⟩⟩
    have hz3 := hb3.size
    have hps3 := hps2.below hb3 (by omega)
    have hrow3 : ∀ p, rowOf (some (⟨W2.heap.size, 0, none⟩ : Addr)) 2 = some p → W2.heap.size ≤ p := fun p hp => (hO3.rowLt p hp).1
    have k1 : W3.cell? ⟨w.heap.size, 1, none⟩ = some (.string nm) := (hb3.cell (p := ⟨_, 1, none⟩) hwz).trans c1
    have k3 : W3.cell? ⟨w.heap.size, 3, none⟩ = some (.slice pa 3 pc) := (hb3.cell (p := ⟨_, 3, none⟩) hwz).trans c3
    have HW3 := Lib.hid hW3
    clear hW3
    go_enter Tryz.func52, Tryz.ntmps52
    go_wp2_with (first | rw [← HW1.out] | rw [← HW2.out] | rw [← HW3.out] | (at_builtin; refine wpList_append_ss rfl _ _ rfl W2.heap.size _ _ _ _ _ _ _ _ _ rfl (by first | rfl | (simp; rfl)) hO3 hps3 (by simp) (by omega) ?_; intro ao' cap' w7 hown7 hg7))
    have hcap := ownC_capLe hown7.2.2
    obtain ⟨g, rfl, hgB, hgw, -⟩ := hown7.2.2.some (by simp)
    obtain ⟨b', f', e', -, hcs⟩ := strs_cells hown7.strs (by simp)
    cases e'
    refine (join_any g cap' [⟨#[112, 105, 99, 107]⟩, nm, p0, p1, p2] E HJ.out (by have := HES.out; omega) (by simp) _ hcs hgw (by simpa using hcap)).mono ?_
    rintro e w8 ⟨rfl, hb8⟩
    have hB3 := HBW.out.trans (hb3.mono HBW.out.size)
    have hB7 := hB3.grown hg7 hB3.size (fun p hp => by have := hrow3 p hp; omega)
    go_wp2_with fail
    go_ret
    exact ⟨ret_str HT.out.symm, hB7.trans (hb8.mono hB7.size)⟩
    -- </A>
  · obtain rfl : K = 6 := by omega
    -- <A>
    have q0 : ps.length = 1 := by have : (ps.length : Int) = 1 := q1; omega
    obtain ⟨p0, rfl⟩ := one_of q0
    obtain ⟨bp, fp, rfl, hbp, hpc⟩ := strs_cells hps2 (by simp)
    have hbpz : bp < W2.heap.size := by omega
    have u0 : W2.cell? ⟨bp, fp, none⟩ = some (.string p0) := by simpa using hpc 0 p0 rfl
    clear hpc q0
    simp only [List.length_cons, List.length_nil, Nat.zero_add, Nat.reduceAdd] at c3 HW1
    have hbd : Below W2.heap.size W2 W2.drew := bdrewN (Below.refl _ _) 1
    have HBD := Lib.hid hbd
    have HBW := Lib.hid hbw
    have HJ : Hid (joinB [⟨#[111, 117, 116]⟩, p0] = E) := by show _ = _; rw [join2, HE.out]; rfl
    clear hbd hbw q1 q2 q3 hp
    go_enter Tryz.func52, Tryz.ntmps52
    go_wp2_with (first | rw [← HW1.out] | rw [← HW2.out])
    have hrow := heap_alloc_new W2 (.cells (([⟨#[111, 117, 116]⟩, p0] : List ByteArray).map Value.string).toArray 9)
    refine (join_any W2.heap.size 2 [⟨#[111, 117, 116]⟩, p0] E HJ.out (by have := HES.out; omega) (by simp) _ (row_cells hrow) (by simp) (by simp)).mono ?_
    rintro e w6 ⟨rfl, hb6⟩
    have hB5 := HBW.out.alloc HBW.out.size (.cells (([⟨#[111, 117, 116]⟩, p0] : List ByteArray).map Value.string).toArray 9)
    have hB6 := hB5.trans (hb6.mono hB5.size)
    go_wp2_with fail
    go_ret
    exact ⟨ret_str HT.out.symm, hB6⟩
    -- </A>
end Go.Proofs.YtdlddkgmjpmenaaGreatDoor
/-
  Texts of programs: ProgramText, the reference's and the program's.
-/
namespace Go.Proofs.YtdlddkgmjpmenaaGreatDoor
open Go.RowKit Go.Sort
set_option linter.unusedVariables false
set_option linter.unusedSimpArgs false

def RetTxB (r : ByteArray × Bool) (w : World) (e : Ending) (w' : World) : Prop := e = .returned (.tuple #[.string r.1, .bool r.2]) ∧ Below w.heap.size w w'
theorem RetTxB.eq {r : ByteArray × Bool} {s : ByteArray} {b : Bool} {w w' : World} (h : r = (s, b)) (hb : Below w.heap.size w w') : RetTxB r w (.returned (.tuple #[.string s, .bool b])) w' := by
  subst h; exact ⟨rfl, hb⟩
theorem tabB_on {w W : World} (h : TabB w) (hb : Below w.heap.size w W) : TabB W := fun W' h' => h W' (hb.trans (h'.mono hb.size))
set_option maxRecDepth 20000 in
set_option maxHeartbeats 8000000 in
theorem impl_ProgramText_any (w : World) (ao : Option Addr) (n c : Nat) (ls : List Ln) (h : Lns w w.heap.size ao n ls) (hs : okS ls) (hnc : n ≤ c) (htab : TabB w) :
    Calls Tryz.prog 23 #[.slice ao n c] w (RetTxB (textF ls) w) := by
  have HTB := Lib.hid htab
  have HS := Lib.hid hs
  have hl := h.1
  have HL := Lib.hid hl
  clear htab
  cases hg : laGoodF ls
  · have HF : Hid (textF ls = (ByteArray.mk #[], false)) := by show _ = _; unfold textF; rw [hg]; rfl
    have HG := Lib.hid hg
    clear hg hl
    go_enter Tryz.func23, Tryz.ntmps23
    go_wp2_with fail
    refine (impl_IsProgram_any _ _ _ _ _ h hs hnc).mono ?_
    rw [HG.out]
    rintro e w1 ⟨rfl, hb1⟩
    go_wp2_with fail
    go_ret2
    exact RetTxB.eq HF.out hb1
  · have HF : Hid (textF ls = (textB ls, true)) := by show _ = _; unfold textF; rw [hg]; rfl
    have hn30 : n ≤ 30 := by have := good_len hg; omega
    have HG := Lib.hid hg
    clear hg hl
    go_enter Tryz.func23, Tryz.ntmps23
    go_wp2_with fail
    refine (impl_IsProgram_any _ _ _ _ _ h hs hnc).mono ?_
    rw [HG.out]
    rintro e w1 ⟨rfl, hb1⟩
    have h1 := h.below hb1 (Nat.le_refl _)
    go_wp2_with fail
    go_loopw [4, 12] (fun s4 s12 wr => ∃ (k : Nat) (t : ByteArray), k ≤ n ∧ s4 = .string t ∧ s12 = .int .i64 k ∧ Hid (t = textB (ls.take k)) ∧ t.size ≤ 20000000 * k ∧ Below w.heap.size w wr) (fun _ s12 _ => n - (intOf s12).toNat)
    case atStart => exact ⟨0, _, Nat.zero_le _, rfl, rfl, rfl, Nat.le_refl _, hb1⟩
    case round =>
      obtain ⟨k, t, hk, rfl, rfl, ht, hsz, hbel⟩ := hrel
      by_cases hlt : k < n
      · obtain ⟨b1, o1, x, pa, pc, rfl, hbb, hx, hps, g0, g1, g2, g3, g4, g5, g6⟩ := (h.below hbel (Nat.le_refl _)).at hlt
        obtain ⟨q1, q2, q3, q4⟩ := line_good HG.out hx
        obtain ⟨z1, z2, z3⟩ := HS.out x (List.mem_of_getElem? hx)
        have qp : ∀ p ∈ x.parts, p.size ≤ 1048576 := fun p hp => part_size HG.out HS.out hx hp
        have HT : Hid (textB (ls.take (k + 1)) = t ++ lineT x) := by show _ = _; rw [textB_step hx, ht.out]
        have hes := lineE_size z1 z2 qp q1 q2 q3
        obtain ⟨L, hL⟩ : ∃ L, L = lineT x := ⟨_, rfl⟩
        have hls : L.size ≤ 10000001 := by rw [hL]; unfold lineT; rw [ByteArray.size_append]; show _ + 1 ≤ _; omega
        have HLT := Lib.hid hL
        rw [← hL] at HT
        have hM : ¬ 9223372036854775807 < t.size + L.size := by omega
        obtain ⟨W1, hW1⟩ : ∃ W1, W1 = wr.alloc (lineObj x pa pc) := ⟨_, rfl⟩
        have hb2 : Below wr.heap.size wr W1 := by rw [hW1]; exact (Below.refl _ _).alloc (Nat.le_refl _) _
        have hbx : BoxL W1 wr.heap.size x pa pc := by rw [hW1]; exact boxL_new _ _ _ _
        have hps1 := hps.below hb2 hbel.size
        have hbw := hbel.trans (hb2.mono hbel.size)
        have hlt1 := lineText_any W1 _ x pa pc hps1 hbw.size z1 z2 qp q1 q2 q3 q4 (tabB_on HTB.out hbw)
        have HLX := Lib.hid hlt1
        have HW1 := Lib.hid hW1
        clear hW1 hL hlt1 hps qp q1 q2 q3 q4 hes
        unfold lineObj at HW1
        unfold lineV at HLX
        obtain ⟨c0, c1, c2, c3, c4, c5, c6⟩ := hbx
        go_wp2_with (rw [← HW1.out])
        refine HLX.out.mono ?_
        rw [← HLT.out]
        rintro e w3 ⟨rfl, hb3⟩
        clear c0 c1 c2 c3 c4 c5 c6 g0 g1 g2 g3 g4 g5 g6
        go_wp2_with fail
        have hB3 := hbw.trans (hb3.mono hbw.size)
        go_roundw
        case rel => exact ⟨k + 1, t ++ L, by omega, rfl, by go_num, HT.out.symm, by rw [ByteArray.size_append]; omega, hB3⟩
        case measure => simp [intOf] <;> omega
      · obtain rfl : k = n := by omega
        have HE : Hid (t = textB ls) := by show _ = _; rw [ht.out, ← HL.out, List.take_length]
        go_wp2_with fail
        go_ret2
        exact RetTxB.eq (by rw [HF.out, HE.out]) hbel
end Go.Proofs.YtdlddkgmjpmenaaGreatDoor
