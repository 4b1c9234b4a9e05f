/-
  Draws of programs: any program.
-/
import Derived.Test.YtdlddkgmjpmenaaLd4
import Derived.Test.YtdlddkgmjpmenaaMN
namespace Go.Proofs.Ytdlddkgmjpmenaa
open Go.RowKit
set_option linter.unusedVariables false
set_option linter.unusedSimpArgs false

theorem drewP_stored {b m M g n cap q j : Nat} {w w5 : World} {hs : List (Option Addr × Nat)} {ls : List Ln} {l : Ln} (hT : TT w.heap.size w5 (some ⟨g, 0, none⟩) n cap hs ls) (hl : ls[q]? = some l) (hj : j < 7) (l' : Ln) (v : Value) (hc : ∀ x, lineCells l' x = (lineCells l x).set j v) (hp : l'.parts = l.parts)
    (hn : n ≤ 40) (hok : okE ls) (h1 : l'.name.size ≤ 100) (h2 : l'.op.size ≤ 100) (h3 : l'.parts.length ≤ 100) (hcu : Cur w5 b m) (hm : m ≤ M) (hM : M ≤ 1000000000000) (hG : w.grownBy w5 (some b)) (hBg : w.heap.size ≤ g) (hbl : b < w.heap.size) :
    DrewP b M w (.returned (.slice (some ⟨g, 0, none⟩) n cap)) (w5.setCell ⟨g, q * 7 + j, none⟩ v) :=
  ⟨_, _, _, _, _, rfl, hT.set hl j hj l' v hc hp, hn, okD_set hok.okD h1 h2 h3, (hcu.grown (gset w5 g _ v) (fun p hp => by cases hp; omega)).more hm hM, gown hG (gset w5 g _ v) (fun p hp => by cases hp; exact hBg)⟩
set_option maxHeartbeats 8000000 in
set_option maxRecDepth 20000 in
theorem anyProgram_any (w : World) (b m : Nat) (hc : Cur w b m) (hm : m + 20000 ≤ 1000000000000) :
    Calls Try.prog 20 #[.pointer (some ⟨b, 0, none⟩)] w (DrewP b (m + 3000) w) := by
  have hbl := hc.lt
  go_enter Try.func20, Try.ntmps20
  go_wp2_with fail
  refine (one_any _ _ _ hc (by omega) 30 (by omega) (by omega)).mono ?_
  rintro e w1 ⟨v, rfl, hc1, hg1⟩
  cases v
  rotate_left
  · go_wp2_with fail
    refine (atLimits_any _ _ _ hc1 (by omega)).mono ?_
    rintro e w2 ⟨ls, ao, n, cap, hs, rfl, hT, hn, hok, hc2, hg2⟩
    go_wp2_with fail
    go_ret
    exact ⟨_, _, _, _, _, rfl, hT.up hg1.size, hn, hok, hc2.more (by omega) (by omega), gtrans hg1 hg2⟩
  go_wp2_with fail
  refine (program_any _ _ _ hc1 (by omega)).mono ?_
  rintro e w2 ⟨ls, ao, n, cap, hs, rfl, hT, hn1, hn, hok, hc2, hg2⟩
  have hG2 := gtrans hg1 hg2
  have HOK := Lib.hid hok
  have hT2 := hT.up hg1.size
  clear hc1 hg1 hg2 hc hT
  go_wp2_with fail
  refine (pick_any _ _ _ hc2 (by omega) n (by omega) (by omega)).mono ?_
  rintro e w3 ⟨q, hq0, hq1, rfl, hc3, hg3⟩
  obtain ⟨q, rfl⟩ := Int.eq_ofNat_of_zero_le hq0
  have hqn : q < n := by omega
  obtain ⟨l, hl⟩ := getL_at (i := q) hT2.len hqn
  obtain ⟨ok1, ok2, ok3⟩ := hok l (List.mem_of_getElem? hl)
  have hT3 := hT2.far hg3 hbl
  have hG3 := gtrans hG2 hg3
  obtain ⟨g, x, rfl, -, hBg, -, -, -, -⟩ := hT3.at hl
  clear hT2 hG2 hg3 hc2 hok
  go_wp2_with fail
  refine (pick_any _ _ _ hc3 (by omega) 30 (by omega) (by omega)).mono ?_
  rintro e w4 ⟨r, hr0, hr1, rfl, hc4, hg4⟩
  have hT4 := hT3.far hg4 hbl
  have hG4 := gtrans hG3 hg4
  clear hT3 hG3 hg4 hc3
  by_cases q0 : r = 0
  · subst q0
    go_wp2_with fail
    refine (pick_any _ _ _ hc4 (by omega) 8 (by omega) (by omega)).mono ?_
    rintro e w5 ⟨v, hv0, hv1, rfl, hc5, hg5⟩
    have hT5 := hT4.far hg5 hbl
    have hG5 := gtrans hG4 hg5
    obtain ⟨g', x', hgg, -, -, -, -, hcl, hfz⟩ := hT5.at hl
    cases hgg
    have k0 := hcl 0 _ rfl
    have f0 := hfz (q * 7)
    simp only [Nat.add_zero] at k0
    go_wp2_with fail
    go_ret
    exact drewP_stored (j := 0) hT5 hl (by decide) ⟨v, l.name, l.op, l.parts, l.party, l.width, l.value⟩ (.int .i64 v) (fun x => rfl) rfl hn HOK.out (by show l.name.size ≤ 100; omega) (by show l.op.size ≤ 100; omega) (by show l.parts.length ≤ 100; omega) hc5 (by omega) (by omega) hG5 hBg hbl
  by_cases q1 : r = 1
  · subst q1
    go_wp2_with fail
    refine (of_new _ b _ hc4 (by omega) [⟨#[120]⟩, ⟨#[]⟩, ⟨#[88]⟩, ⟨#[97, 98, 99, 100, 101, 102]⟩, ⟨#[97, 98, 99, 100, 101, 102, 103]⟩] (by decide) (by decide) 7 (by decide)).mono ?_
    rintro e w5 ⟨v, rfl, hv, hc5, hg5⟩
    have hT5 := hT4.far hg5 hbl
    have hG5 := gtrans hG4 hg5
    obtain ⟨g', x', hgg, -, -, -, -, hcl, hfz⟩ := hT5.at hl
    cases hgg
    have k0 := hcl 1 _ rfl
    have f0 := hfz (q * 7 + 1)
    go_wp2_with fail
    go_ret
    exact drewP_stored (j := 1) hT5 hl (by decide) ⟨l.kind, v, l.op, l.parts, l.party, l.width, l.value⟩ (.string v) (fun x => rfl) rfl hn HOK.out (by show v.size ≤ 100; omega) (by show l.op.size ≤ 100; omega) (by show l.parts.length ≤ 100; omega) hc5 (by omega) (by omega) hG5 hBg hbl
  by_cases q2 : r = 2
  · subst q2
    go_wp2_with fail
    refine (among_new _ b _ hc4 (by omega) [0, 10, 11] (by decide) (by decide)).mono ?_
    rintro e w5 ⟨v, hv, rfl, hc5, hg5⟩
    have hT5 := hT4.far hg5 hbl
    have hG5 := gtrans hG4 hg5
    obtain ⟨g', x', hgg, -, -, -, -, hcl, hfz⟩ := hT5.at hl
    cases hgg
    have k0 := hcl 5 _ rfl
    have f0 := hfz (q * 7 + 5)
    go_wp2_with fail
    go_ret
    exact drewP_stored (j := 5) hT5 hl (by decide) ⟨l.kind, l.name, l.op, l.parts, l.party, v, l.value⟩ (.int .i64 v) (fun x => rfl) rfl hn HOK.out (by show l.name.size ≤ 100; omega) (by show l.op.size ≤ 100; omega) (by show l.parts.length ≤ 100; omega) hc5 (by omega) (by omega) hG5 hBg hbl
  by_cases q3 : r = 3
  · subst q3
    go_wp2_with fail
    refine (among_new _ b _ hc4 (by omega) [-1, 1, 1024] (by decide) (by decide)).mono ?_
    rintro e w5 ⟨v, hv, rfl, hc5, hg5⟩
    have hT5 := hT4.far hg5 hbl
    have hG5 := gtrans hG4 hg5
    obtain ⟨g', x', hgg, -, -, -, -, hcl, hfz⟩ := hT5.at hl
    cases hgg
    have k0 := hcl 6 _ rfl
    have f0 := hfz (q * 7 + 6)
    go_wp2_with fail
    go_ret
    exact drewP_stored (j := 6) hT5 hl (by decide) ⟨l.kind, l.name, l.op, l.parts, l.party, l.width, v⟩ (.int .i64 v) (fun x => rfl) rfl hn HOK.out (by show l.name.size ≤ 100; omega) (by show l.op.size ≤ 100; omega) (by show l.parts.length ≤ 100; omega) hc5 (by omega) (by omega) hG5 hBg hbl
  by_cases q4 : r = 4
  · subst q4
    obtain ⟨g', x', hgg, hx', -, -, -, hcl, -⟩ := hT4.at hl
    cases hgg
    have k0 := hcl 3 _ rfl
    have hps := hT4.parts q l x' hl hx'
    have hS := hT4.rowsS (Nat.le_refl _)
    go_wp2_with fail
    refine (l1OwnS_any _ w4.heap.size _ _ _ _ hps.strs (Nat.le_refl _) (by omega)).mono ?_
    rintro e w5 ⟨o5, n5, c5, rfl, hO5, hb5⟩
    have hl5 := hO5.1
    subst hl5
    have hT5 := hT4.below hb5 (Nat.le_refl _)
    have hc5' := hc4.below hb5 hc4.lt
    have hG5 := gbelow hG4 hb5
    have hz5 := hb5.size
    have hz4 := hG4.size
    obtain ⟨W6, hW6⟩ : ∃ W6, W6 = w5.alloc (.cells #[.string ⟨#[120]⟩] 9) := ⟨_, rfl⟩
    have hb6 : Below w5.heap.size w5 W6 := by rw [hW6]; exact (Below.refl _ _).alloc (Nat.le_refl _) _
    have hx6 : Strs W6 W6.heap.size (some ⟨w5.heap.size, 0, none⟩) 1 [⟨#[120]⟩] := by rw [hW6]; exact (own_str_at (S := w5.heap.size) (heap_alloc_new w5 _) (Nat.le_refl _)).strs
    have HW6 := Lib.hid hW6
    clear hW6 k0 hcl
    have hO6 := hO5.below hb6 (Nat.le_refl _)
    have hz6 := hb6.size
    have hrow : ∀ p, rowOf o5 c5 = some p → w4.heap.size ≤ p := fun p hp => (hO6.rowLt p hp).1
    obtain ⟨g', x', hgg, hx', -, -, -, hcl, hfz⟩ := (hT5.below hb6 (Nat.le_refl _)).at hl
    cases hgg
    have k0 := hcl 3 _ rfl
    have f0 := hfz (q * 7 + 3)
    go_wp2_with (first | rw [← HW6.out] | (at_builtin; refine wpList_append_ss rfl _ _ rfl w4.heap.size _ _ _ _ _ _ _ _ _ rfl rfl hO6 hx6 (by omega) (by omega) ?_; intro ao' cap' w7 hown7 hg7; clear k0 f0 hcl hfz; have hT7 := hT4.farN (hT5.below hb6 (Nat.le_refl _)) hg7 hrow; obtain ⟨g', x', hgg, hx', -, -, -, hcl, hfz⟩ := hT7.at hl; cases hgg; have k0 := hcl 3 _ rfl; have f0 := hfz (q * 7 + 3)))
    go_ret
    have hlen : (l.parts ++ [(⟨#[120]⟩ : ByteArray)]).length = l.parts.length + 1 := by simp
    have hTP := TT.setP (S := w4.heap.size) hT7 hl (po := ao') (pc := cap') (ps := l.parts ++ [⟨#[120]⟩]) (by rw [hlen]; exact hown7) hS hz4
    rw [hlen] at hTP
    have hc7 := (hc5'.below hb6 hc5'.lt).grown hg7 (fun p hp => by have := hrow p hp; omega)
    have hG7 := gown (gbelow hG5 hb6) hg7 (fun p hp => by have := hrow p hp; omega)
    exact ⟨_, _, _, _, _, rfl, hTP, hn, okD_set HOK.out.okD (by show l.name.size ≤ 100; omega) (by show l.op.size ≤ 100; omega) (by show (l.parts ++ [(⟨#[120]⟩ : ByteArray)]).length ≤ 100; rw [hlen]; omega), (hc7.grown (gset w7 g _ _) (fun p hp => by cases hp; omega)).more (by omega) (by omega), gown hG7 (gset w7 g _ _) (fun p hp => by cases hp; exact hBg)⟩
  by_cases q5 : r = 5
  · subst q5
    go_wp2_with fail
    refine (of_new _ b _ hc4 (by omega) [⟨#[43]⟩, ⟨#[47]⟩, ⟨#[42]⟩] (by decide) (by decide) 4 (by decide)).mono ?_
    rintro e w5 ⟨v, rfl, hv, hc5, hg5⟩
    have hT5 := hT4.far hg5 hbl
    have hG5 := gtrans hG4 hg5
    obtain ⟨g', x', hgg, -, -, -, -, hcl, hfz⟩ := hT5.at hl
    cases hgg
    have k0 := hcl 2 _ rfl
    have f0 := hfz (q * 7 + 2)
    go_wp2_with fail
    go_ret
    exact drewP_stored (j := 2) hT5 hl (by decide) ⟨l.kind, l.name, v, l.parts, l.party, l.width, l.value⟩ (.string v) (fun x => rfl) rfl hn HOK.out (by show l.name.size ≤ 100; omega) (by show v.size ≤ 100; omega) (by show l.parts.length ≤ 100; omega) hc5 (by omega) (by omega) hG5 hBg hbl
  · go_wp2_with fail
    go_ret
    exact ⟨_, _, _, _, _, rfl, hT4, hn, HOK.out.okD, hc4.more (by omega) (by omega), hG4⟩
end Go.Proofs.Ytdlddkgmjpmenaa
/-
  Draws of programs: what the laws draw.
-/
namespace Go.Proofs.Ytdlddkgmjpmenaa
open Go.RowKit
set_option linter.unusedVariables false
set_option linter.unusedSimpArgs false

/-- A program is handed out. -/
def RetLs (w : World) (e : Ending) (w' : World) : Prop := ∃ (ls : List Ln) (ao : Option Addr) (n cap : Nat), e = .returned (.slice ao n cap) ∧ Lns w' w'.heap.size ao n ls ∧ n ≤ cap ∧ n ≤ 40 ∧ okD ls ∧ Below w.heap.size w w'
theorem DrawIsProgram_any (w : World) (ao : Option Addr) (n cap : Nat) (bs : List Int) (h : Bytes w w.heap.size ao n bs) :
    Calls Try.prog 27 #[.slice ao n cap] w (RetLs w) := by
  obtain ⟨W, hW, hc, hb, hlt⟩ := cur_new w ao n cap bs h
  have HW := Lib.hid hW
  clear hW
  go_enter Try.func27, Try.ntmps27
  go_wp2_with (rw [← HW.out])
  refine (anyProgram_any _ _ _ hc (by omega)).mono ?_
  rintro e w2 ⟨ls, bo, k, c2, hs, rfl, hT, hk, hok, hc2, hg⟩
  go_wp2_with fail
  go_ret
  exact ⟨ls, _, _, _, rfl, hT.lns, ownC_capLe hT.row, hk, hok, below_cur hb hg⟩
theorem DrawCountOps_any (w : World) (ao : Option Addr) (n cap : Nat) (bs : List Int) (h : Bytes w w.heap.size ao n bs) :
    Calls Try.prog 7 #[.slice ao n cap] w (RetLs w) := by
  go_enter Try.func7, Try.ntmps7
  go_wp2_with fail
  refine (DrawIsProgram_any _ _ _ _ _ h).mono ?_
  rintro e w2 ⟨ls, bo, k, c2, rfl, hL, hkc, hk, hok, hb⟩
  go_wp2_with fail
  go_ret
  exact ⟨ls, _, _, _, rfl, hL, hkc, hk, hok, hb⟩
/-- A program and a party. -/
def RetLsP (w : World) (e : Ending) (w' : World) : Prop := ∃ (ls : List Ln) (ao : Option Addr) (n cap : Nat) (p : Int), e = .returned (.tuple #[.slice ao n cap, .int .i64 p]) ∧ Lns w' w'.heap.size ao n ls ∧ n ≤ cap ∧ n ≤ 40 ∧ okD ls ∧ Below w.heap.size w w'
theorem DrawInputWidths_any (w : World) (ao : Option Addr) (n cap : Nat) (bs : List Int) (h : Bytes w w.heap.size ao n bs) :
    Calls Try.prog 12 #[.slice ao n cap] w (RetLsP w) := by
  obtain ⟨W, hW, hc, hb, hlt⟩ := cur_new w ao n cap bs h
  have HW := Lib.hid hW
  clear hW
  go_enter Try.func12, Try.ntmps12
  go_wp2_with (rw [← HW.out])
  refine (anyProgram_any _ _ _ hc (by omega)).mono ?_
  rintro e w2 ⟨ls, bo, k, c2, hs, rfl, hT, hk, hok, hc2, hg⟩
  go_wp2_with fail
  refine (pick_any _ _ _ hc2 (by omega) 3 (by omega) (by omega)).mono ?_
  rintro e w3 ⟨q, hq0, hq1, rfl, hc3, hg3⟩
  go_wp2_with fail
  refine (pick_any _ _ _ hc3 (by omega) 16 (by omega) (by omega)).mono ?_
  rintro e w4 ⟨r, hr0, hr1, rfl, hc4, hg4⟩
  have hT4 := (hT.far hg3 hlt).far hg4 hlt
  go_wp2_with fail
  go_ret2
  exact ⟨ls, _, _, _, _, rfl, hT4.lns, ownC_capLe hT4.row, hk, hok, below_cur hb (gtrans (gtrans hg hg3) hg4)⟩
/-- A program and numbers for its inputs. -/
def RetLsN (w : World) (e : Ending) (w' : World) : Prop := ∃ (ls : List Ln) (ao : Option Addr) (n cap : Nat) (xs ys : List Int) (o1 o2 : Option Addr) (n1 n2 c1 c2 : Nat), e = .returned (.tuple #[.slice ao n cap, .slice o1 n1 c1, .slice o2 n2 c2]) ∧ Lns w' w'.heap.size ao n ls ∧ n ≤ cap ∧ n ≤ 40 ∧ okD ls ∧ Ints w' w'.heap.size o1 n1 xs ∧ Ints w' w'.heap.size o2 n2 ys ∧ n1 ≤ 50 ∧ n2 ≤ 50 ∧ Below w.heap.size w w'
theorem DrawValuesIn_any (w : World) (ao : Option Addr) (n cap : Nat) (bs : List Int) (h : Bytes w w.heap.size ao n bs) :
    Calls Try.prog 4 #[.slice ao n cap] w (RetLsN w) := by
  obtain ⟨W, hW, hc, hb, hlt⟩ := cur_new w ao n cap bs h
  have HW := Lib.hid hW
  clear hW
  go_enter Try.func4, Try.ntmps4
  go_wp2_with (rw [← HW.out])
  refine (anyProgram_any _ _ _ hc (by omega)).mono ?_
  rintro e w2 ⟨ls, bo, k, c2, hs, rfl, hT, hk, hok, hc2, hg⟩
  go_wp2_with fail
  refine (numbers_any _ _ _ W.heap.size hc2 (by omega) _ _ _ _ _ hT hlt hk).mono ?_
  rintro e w3 ⟨xs, ys, o1, o2, n1, n2, c1, c2', rfl, hx, hy, hn1, hn2, hc3, hg3⟩
  have hT3 := hT.far hg3 hlt
  go_wp2_with fail
  go_ret3
  exact ⟨ls, _, _, _, xs, ys, _, _, _, _, _, _, rfl, hT3.lns, ownC_capLe hT3.row, hk, hok, hx.ints, hy.ints, hn1, hn2, below_cur hb (gtrans hg hg3)⟩
end Go.Proofs.Ytdlddkgmjpmenaa
