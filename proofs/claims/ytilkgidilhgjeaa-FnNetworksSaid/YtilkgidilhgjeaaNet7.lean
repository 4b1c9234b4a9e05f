/-
  Networks and the lists of zeros and ones: sorted lists, the first list that is not sorted, the steps that exchange something.
-/
import Derived.Test.YtilkgidilhgjeaaNet6
namespace Go.Proofs.Ytilkgidilhgjeaa
open Go.RowKit

def sortedB (o : List Int) : Bool := (List.range (o.length - 1)).all fun i => decide (o.getD i 0 ≤ o.getD (i + 1) 0)
theorem sortedB_no {o : List Int} {k : Nat} {x y : Int} (hx : o[k]? = some x) (hy : o[k + 1]? = some y) (h : y < x) : sortedB o = false := by
  have hk : k + 1 < o.length := (List.getElem?_eq_some_iff.1 hy).1
  rw [sortedB, List.all_eq_false]
  exact ⟨k, List.mem_range.2 (by omega), by simp [List.getD, hx, hy]; omega⟩
theorem sortedB_yes {o : List Int} (h : ∀ (i : Nat) (x y : Int), o[i]? = some x → o[i + 1]? = some y → x ≤ y) : sortedB o = true := by
  rw [sortedB, List.all_eq_true]
  intro i hi
  have hi := List.mem_range.1 hi
  have h1 : i < o.length := by omega
  have h2 : i + 1 < o.length := by omega
  have := h i _ _ (List.getElem?_eq_getElem h1) (List.getElem?_eq_getElem h2)
  simpa [List.getD, h1, h2] using this

theorem isNaN_any (a : Int) (w : World) : Calls Try.prog 128 #[.int .i64 a] w fun e w' => e = .returned (.bool false) ∧ w = w' := by
  go_enter Try.func128, Try.ntmps128
  go_wp2
  go_ret
  exact ⟨ret_bool (by simp), rfl⟩
theorem less_any (a b : Int) (w : World) : Calls Try.prog 117 #[.int .i64 a, .int .i64 b] w fun e w' => e = .returned (.bool (decide (a < b))) ∧ w = w' := by
  by_cases h : a < b
  · go_enter Try.func117, Try.ntmps117
    go_wp2_with (go_at_call 128; refine (isNaN_any _ _).mono ?_; rintro e w' ⟨rfl, rfl⟩)
    go_ret
    exact ⟨ret_bool (by simp [h]), rfl⟩
  · go_enter Try.func117, Try.ntmps117
    go_wp2_with (go_at_call 128; refine (isNaN_any _ _).mono ?_; rintro e w' ⟨rfl, rfl⟩)
    go_ret
    exact ⟨ret_bool (by simp), rfl⟩
/-- From place iv on the list is in order. -/
def ordFrom (o : List Int) (iv : Int) : Prop := ∀ (i : Nat) (x y : Int), iv ≤ i → o[i]? = some x → o[i + 1]? = some y → x ≤ y
theorem isSorted_any (w : World) (ao : Option Addr) (n c : Nat) (xs : List Int) (ha : Ints w w.heap.size ao n xs) :
    Calls Try.prog 111 #[.slice ao n c] w (RetB (sortedB xs) w) := by
  have hn := ha.le
  have hl := Lib.hid ha.1
  go_enter Try.func111, Try.ntmps111
  go_wp2_with fail
  go_loopw [3] (fun i wr => ∃ iv : Int, -1 ≤ iv ∧ iv < n ∧ i = .int .i64 iv ∧ Hid (ordFrom xs iv) ∧ Below w.heap.size w wr) (fun i _ => (intOf i + 1).toNat)
  case atStart => exact ⟨_, by omega, by omega, rfl, (by intro i x y h1 _ h2; have := (List.getElem?_eq_some_iff.1 h2).1; rw [hl.out] at this; omega), Below.refl _ _⟩
  case round =>
    obtain ⟨iv, h1, h2, rfl, hor, hbel⟩ := hrel
    by_cases hp : 0 < iv
    · obtain ⟨j, rfl⟩ : ∃ j : Nat, iv = (j : Int) + 1 := ⟨(iv - 1).toNat, by omega⟩
      obtain ⟨b1, o1, x, rfl, hb1, hx, c1⟩ := ha.at (k := j) (by omega)
      obtain ⟨y, hy, c2⟩ := ha.at' (k := j + 1) (by omega)
      have g1 : wr.cell? ⟨b1, o1 + j, none⟩ = some (.int .i64 x) := (hbel.cell (by exact hb1)).trans c1
      have g2 : wr.cell? ⟨b1, o1 + (j + 1), none⟩ = some (.int .i64 y) := (hbel.cell (by exact hb1)).trans c2
      have HX := Lib.hid hx
      have HY := Lib.hid hy
      clear hx hy c1 c2
      by_cases hlt : y < x
      · go_wp2_with fail
        go_quiet ((go_at_call 117; exact quiet_left (less_any _ _ _)))
        go_wp2_with fail
        go_ret
        exact ⟨ret_bool (sortedB_no HX.out HY.out hlt).symm, bdrewN hbel _⟩
      · go_wp2_with fail
        go_quiet ((go_at_call 117; exact quiet_left (less_any _ _ _)))
        go_wp2_with fail
        go_roundw
        case rel => exact ⟨j, by omega, by omega, by go_num, (by
          intro i x' y' hi hx' hy'
          by_cases he : i = j
          · subst he
            rw [HX.out] at hx'; rw [HY.out] at hy'
            simp at hx' hy'; omega
          · exact hor.out i x' y' (by omega) hx' hy'), bdrewN hbel _⟩
        case measure => simp [intOf] <;> omega
    · go_wp2_with fail
      go_ret
      exact ⟨ret_bool (sortedB_yes fun i x y h3 h4 => hor.out i x y (by omega) h3 h4).symm, hbel⟩

/-- List k of n zeros and ones is not sorted behind the steps. -/
def unsB (l : List (Int × Int)) (n k : Nat) : Bool := !sortedB (l.foldl exch (btOfL k n))
/-- The first of the lists below m that is not sorted. -/
def firstTo (l : List (Int × Int)) (n m : Nat) : Option Nat := (List.range m).find? (unsB l n)
theorem firstTo_zero (l : List (Int × Int)) (n : Nat) : firstTo l n 0 = none := rfl
theorem firstTo_some {l : List (Int × Int)} {n m k : Nat} (h : firstTo l n m = some k) : firstTo l n (m + 1) = some k := by
  rw [firstTo, List.range_succ, List.find?_append]; rw [firstTo] at h; rw [h]; rfl
theorem firstTo_yes {l : List (Int × Int)} {n m : Nat} (h : firstTo l n m = none) (hu : unsB l n m = true) : firstTo l n (m + 1) = some m := by
  rw [firstTo, List.range_succ, List.find?_append]; rw [firstTo] at h; rw [h]; simp [hu]
theorem firstTo_no {l : List (Int × Int)} {n m : Nat} (h : firstTo l n m = none) (hu : unsB l n m = false) : firstTo l n (m + 1) = none := by
  rw [firstTo, List.range_succ, List.find?_append]; rw [firstTo] at h; rw [h]; simp [hu]
theorem firstTo_same {l : List (Int × Int)} {n m : Nat} (hu : unsB l n m = false) : firstTo l n (m + 1) = firstTo l n m := by
  cases h : firstTo l n m with
  | none => exact firstTo_no h hu
  | some k => exact firstTo_some h
theorem firstTo_up {l : List (Int × Int)} {n m k : Nat} (h : firstTo l n m = some k) : ∀ d, firstTo l n (m + d) = some k
  | 0 => h
  | d + 1 => firstTo_some (firstTo_up h d)
def firstN : Option Nat → Int
  | some k => k
  | none => -1
/-- The marks behind the lists below m. -/
def marksTo (l : List (Int × Int)) (n : Nat) : Nat → List Bool
  | 0 => List.replicate l.length false
  | m + 1 => orL (marksTo l n m) (didL l (btOfL m n))
theorem marksTo_length (l : List (Int × Int)) (n m : Nat) : (marksTo l n m).length = l.length := by
  induction m with
  | zero => simp [marksTo]
  | succ m ih => rw [marksTo]; exact orL_length ih (didL_length _ _)

def RetZo (f : Int) (bs : List Bool) (w : World) (e : Ending) (w' : World) : Prop := ∃ bo m capb, e = .returned (.tuple #[.int .i64 f, .slice bo m capb]) ∧ OwnB w.heap.size w' bo m capb bs ∧ Below w.heap.size w w'
theorem pow_le12 {n : Nat} (h : n ≤ 12) : 2 ^ n ≤ 4096 := Nat.pow_le_pow_right (by decide) h
theorem shl_pow {n : Nat} (h : n ≤ 12) : wrap64 ((2 : Int) ^ n) = ((2 ^ n : Nat) : Int) := by
  have h4 := pow_le12 h
  have e : (2 : Int) ^ n = ((2 ^ n : Nat) : Int) := by simp
  rw [e, wrap64]
  generalize 2 ^ n = q at *
  omega
theorem zeroOnes_any (w : World) (n : Nat) (ao : Option Addr) (len c : Nat) (xs : List Int) (ha : Flat 2 w w.heap.size ao len xs) (hn : n ≤ 12) (hv : (steps xs).any (bad n) = false) :
    Calls Try.prog 77 #[.int .i64 n, .slice ao len c] w (RetZo (firstN (firstTo (steps xs) n (2 ^ n))) (marksTo (steps xs) n (2 ^ n)) w) := by
  have hle := ha.le
  have HV := Lib.hid hv
  have hsl := Lib.hid (steps_length len xs ha.1)
  clear hv
  obtain ⟨i0, hi, hz0, hz1, hz2⟩ := info_parts bool_info
  obtain ⟨p, hp⟩ : ∃ p, p = 2 ^ n := ⟨_, rfl⟩
  have hp4 : p ≤ 4096 := hp ▸ pow_le12 hn
  have hsh := shl_pow hn
  rw [← hp] at hsh ⊢
  clear hp
  go_enter Try.func77, Try.ntmps77
  obtain ⟨w1, hrun, hown1, hg1⟩ := run_make_full (P := Try.prog) w.drew w.heap.size 101 4 i0 (.bool false) 1 Try.underlying101 hi hz0 hz1 .i64 .i64 len (by rw [hz2]; omega) (by unfold maxLen; omega) (Nat.le_refl _)
  go_wp2_with fail
  go_region
  all_goals
    rw [show (Value.bool false).cells = #[.bool false] from rfl, toList_madeCells_one, Nat.mul_one] at hown1
    have hm1 : OwnB w.heap.size w1 (some ⟨w.heap.size, 0, none⟩) len len (marksTo (steps xs) n 0) := ⟨by rw [marksTo_length, hsl.out], hle, .inr ⟨_, rfl, by rw [marksTo, hsl.out]; simpa using hown1⟩⟩
    have hb1 : Below w.heap.size w w1 := (Below.refl _ _).drew.grown hg1 (Nat.le_refl _) (by simp)
    clear hown1 hi hz0 hz1 hz2 hrun hg1
    go_wp2_with fail
    rw [hsh]
    clear hsh
    go_loopw [6, 15] (fun f i wr => ∃ k : Nat, k ≤ p ∧ i = .int .i64 k ∧ f = .int .i64 (firstN (firstTo (steps xs) n k)) ∧ OwnB w.heap.size wr (some ⟨w.heap.size, 0, none⟩) len len (marksTo (steps xs) n k) ∧ Below w.heap.size w wr) (fun _ i _ => p - (intOf i).toNat)
    case atStart => exact ⟨0, Nat.zero_le _, rfl, rfl, hm1, hb1⟩
    case round =>
      obtain ⟨k, hk, rfl, rfl, hmk, hbel⟩ := hrel
      by_cases hlt : k < p
      · have haB := Lib.hid (ha.below hbel (Nat.le_refl _))
        go_wp2_with fail
        refine (bitsOf_any _ _ _ (by omega) (by omega)).mono ?_
        rintro e w2 ⟨a1, n1, c1, rfl, ho1, hb1⟩
        obtain rfl : n1 = n := by have := ho1.1; rw [btOfL_length] at this; exact this.symm
        have haC := Lib.hid (haB.out.below hb1 hbel.size)
        have hbel2 := hbel.trans (hb1.mono hbel.size)
        go_wp2_with fail
        refine (sortWith_any _ _ _ _ _ _ _ _ _ _ _ _ _ haC.out ho1.ints (hmk.below hb1 (Nat.le_refl _)) hbel2.size hn HV.out).mono ?_
        rintro e w3 ⟨a2, n2, c2, rfl, ho2, hm2, hg2⟩
        have hbel3 : Below w.heap.size w w3 := below_append hbel2 (hmk.below hb1 (Nat.le_refl _)).2.2 hg2 hbel2.size
        have HSB : Hid (unsB (steps xs) n1 k = !sortedB ((steps xs).foldl exch (btOfL k n1))) := rfl
        rw [← marksTo] at hm2
        go_wp2_with fail
        refine (isSorted_any _ _ _ _ _ ho2.ints).mono ?_
        rintro e w4 ⟨rfl, hb4⟩
        have hbel4 := hbel3.trans (hb4.mono hbel3.size)
        have hm4 := hm2.below hb4 (Nat.le_refl _)
        cases hs : sortedB ((steps xs).foldl exch (btOfL k n1))
        · have hu : unsB (steps xs) n1 k = true := by simp [unsB, hs]
          cases hf : firstTo (steps xs) n1 k with
          | none =>
            have H1 := Lib.hid (firstTo_yes hf hu)
            rw [show firstN none = -1 from rfl]
            clear hf hu hs
            go_wp2_with fail
            go_roundw
            case rel => exact ⟨k + 1, by omega, by go_num, by rw [H1.out]; rfl, hm4, hbel4⟩
            case measure => simp [intOf] <;> omega
          | some j =>
            have H1 := Lib.hid (firstTo_some hf)
            rw [show firstN (some j) = (j : Int) from rfl]
            clear hf hu hs
            go_wp2_with fail
            go_roundw
            case rel => exact ⟨k + 1, by omega, by go_num, by rw [H1.out]; rfl, hm4, hbel4⟩
            case measure => simp [intOf] <;> omega
        · have hu : unsB (steps xs) n1 k = false := by simp [unsB, hs]
          have H1 := Lib.hid (firstTo_same hu)
          clear hu hs
          go_wp2_with fail
          go_roundw
          case rel => exact ⟨k + 1, by omega, by go_num, by rw [H1.out], hm4, hbel4⟩
          case measure => simp [intOf] <;> omega
      · obtain rfl : k = p := by omega
        go_wp2_with fail
        go_ret2
        exact ⟨_, _, _, rfl, hmk, hbel⟩
/-! ### The reference's way -/
/-- Up to place iv the list is in order. -/
def ordTo (o : List Int) (iv : Int) : Prop := ∀ (i : Nat) (x y : Int), (i : Int) + 1 < iv → o[i]? = some x → o[i + 1]? = some y → x ≤ y
def firstL (n : Nat) : Option Nat → List Int
  | some k => btOfL k n
  | none => []
theorem soFirst_any (w : World) (n : Nat) (ao : Option Addr) (len c : Nat) (xs : List Int) (ha : Flat 2 w w.heap.size ao len xs) (h1n : 1 ≤ n) (hn : n ≤ 12) (hv : (steps xs).any (bad n) = false) :
    Calls Try.prog 78 #[.int .i64 n, .slice ao len c] w (RetI (firstL n (firstTo (steps xs) n (2 ^ n))) w) := by
  have hle := ha.le
  have HV := Lib.hid hv
  clear hv
  obtain ⟨p, hp⟩ : ∃ p, p = 2 ^ n := ⟨_, rfl⟩
  have hp4 : p ≤ 4096 := hp ▸ pow_le12 hn
  have hsh := shl_pow hn
  rw [← hp] at hsh ⊢
  clear hp
  go_enter Try.func78, Try.ntmps78
  go_wp2_with fail
  go_loopw [5] (fun i wr => ∃ k : Nat, k ≤ p ∧ i = .int .i64 k ∧ Hid (firstTo (steps xs) n k = none) ∧ Below w.heap.size w wr) (fun i _ => p - (intOf i).toNat)
  case atStart => exact ⟨0, Nat.zero_le _, rfl, by exact firstTo_zero _ _, Below.refl _ _⟩
  case round =>
    obtain ⟨k, hk, rfl, hfr, hbel⟩ := hrel
    by_cases hlt : k < p
    · have haB := Lib.hid ((ha.below hbel (Nat.le_refl _)).up hbel.size)
      go_wp2_with fail
      refine (btOf_any _ _ _ (by omega) (by omega)).mono ?_
      rintro e w1 ⟨a1, n1, c1, rfl, ho1, hb1⟩
      obtain rfl : n1 = n := by have := ho1.1; rw [btOfL_length] at this; exact this.symm
      have haC := Lib.hid ((haB.out.below hb1 (Nat.le_refl _)).up hb1.size)
      go_wp2_with fail
      refine (soWith_any _ _ _ _ _ _ _ _ _ haC.out ho1.ints hn HV.out).mono ?_
      rintro e w2 ⟨a2, n2, c2, b2, m2, d2, rfl, ho2, _, hb2⟩
      obtain rfl : n2 = n1 := by have := ho2.1; rw [foldl_length, btOfL_length] at this; exact this.symm
      have hbel2 := hbel.trans ((hb1.trans (hb2.mono hb1.size)).mono hbel.size)
      have ho1' := ho1.below hb2 (Nat.le_refl _)
      have hlo := Lib.hid ho2.1
      obtain ⟨o, ho⟩ : ∃ o, o = (steps xs).foldl exch (btOfL k n2) := ⟨_, rfl⟩
      have HO := Lib.hid ho
      rw [← ho] at ho2 hlo
      clear ho
      have hI := ho2.ints
      go_wp2_with fail
      obtain ⟨wq, rfl⟩ : ∃ wq : World, wq = wr := ⟨_, rfl⟩
      go_loopw [9] (fun i wr => ∃ j : Nat, 1 ≤ j ∧ j ≤ n2 ∧ i = .int .i64 j ∧ Hid (ordTo o j) ∧ Below w2.heap.size w2 wr) (fun i _ => n2 - (intOf i).toNat)
      case atStart => exact ⟨1, by omega, h1n, rfl, (by intro i x y h _ _; omega), Below.refl _ _⟩
      case round =>
        obtain ⟨j, j1, j2, rfl, hor, hbr⟩ := hrel
        by_cases hj : j < n2
        · obtain ⟨q, rfl⟩ : ∃ q, j = q + 1 := ⟨j - 1, by omega⟩
          obtain ⟨b1, o1, x, rfl, hb1', hx, cx⟩ := hI.at (k := q) (by omega)
          obtain ⟨y, hy, cy⟩ := hI.at' (k := q + 1) hj
          have g1 : wr.cell? ⟨b1, o1 + q, none⟩ = some (.int .i64 x) := (hbr.cell (by exact hb1')).trans cx
          have g2 : wr.cell? ⟨b1, o1 + (q + 1), none⟩ = some (.int .i64 y) := (hbr.cell (by exact hb1')).trans cy
          have HX := Lib.hid hx
          have HY := Lib.hid hy
          clear hx hy cx cy
          by_cases hlt : y < x
          · have HU : Hid (firstTo (steps xs) n2 p = some k) := by
              have hu : unsB (steps xs) n2 k = true := by
                have := sortedB_no HX.out HY.out hlt
                rw [HO.out] at this
                simp [unsB, this]
              have := firstTo_up (firstTo_yes hfr.out hu) (p - (k + 1))
              rwa [show k + 1 + (p - (k + 1)) = p from by omega] at this
            have ho1R := (ho1'.below hbr (Nat.le_refl _)).up hbel.size
            go_wp2_with fail
            go_quiet (fail)
            go_wp2_with fail
            go_ret
            exact ⟨_, _, _, rfl, by rw [HU.out]; exact ho1R, bdrewN (hbel2.trans (hbr.mono hbel2.size)) _⟩
          · go_wp2_with fail
            go_quiet (fail)
            go_wp2_with fail
            go_roundw
            case rel => exact ⟨q + 1 + 1, by omega, by omega, by go_num, (by
              intro i x' y' hi hx' hy'
              by_cases he : i = q
              · subst he
                rw [HX.out] at hx'; rw [HY.out] at hy'
                simp at hx' hy'; omega
              · exact hor.out i x' y' (by omega) hx' hy'), bdrewN hbr _⟩
            case measure => simp [intOf] <;> omega
        · obtain rfl : j = n2 := by omega
          have HU : Hid (firstTo (steps xs) j (k + 1) = none) := by
            have hu : unsB (steps xs) j k = false := by
              have : sortedB o = true := sortedB_yes fun i x y h3 h4 => hor.out i x y (by have := (List.getElem?_eq_some_iff.1 h4).1; rw [hlo.out] at this; omega) h3 h4
              rw [HO.out] at this
              simp [unsB, this]
            exact firstTo_no hfr.out hu
          go_wp2_with fail
          go_roundw
          case rel => exact ⟨k + 1, by omega, by go_num, HU.out, hbel2.trans (hbr.mono hbel2.size)⟩
          case measure => simp [intOf] <;> omega
    · obtain rfl : k = p := by omega
      go_wp2_with fail
      go_ret
      exact ⟨none, 0, 0, rfl, by rw [hfr.out]; exact OwnI.nil _ _ _, hbel⟩

/-! ### The steps that exchange nothing -/
theorem OwnB.cell {B : Nat} {w : World} {g n cap : Nat} {bs : List Bool} (h : OwnB B w (some ⟨g, 0, none⟩) n cap bs) {k : Nat} {x : Bool} (hx : bs[k]? = some x) : w.cell? ⟨g, k, none⟩ = some (.bool x) := by
  have hk : k < n := by rw [← h.1]; exact (List.getElem?_eq_some_iff.1 hx).1
  obtain ⟨_, _, _, hc⟩ := h.set hk true
  rw [hc]
  simp [List.getD, hx]
def falseAt (bs : List Bool) (k : Nat) : List Int := (List.range k).flatMap fun i => if bs.getD i true = true then [] else [(i : Int)]
theorem falseAt_yes {bs : List Bool} {k : Nat} (h : bs[k]? = some false) : falseAt bs (k + 1) = falseAt bs k ++ [(k : Int)] := by
  simp [falseAt, List.range_succ, List.getD, h]
theorem falseAt_no {bs : List Bool} {k : Nat} (h : bs[k]? = some true) : falseAt bs (k + 1) = falseAt bs k := by
  simp [falseAt, List.range_succ, List.getD, h]
theorem falseAt_mem {bs : List Bool} {m k : Nat} (hk : k < m) : (falseAt bs m).contains (k : Int) = !bs.getD k true := by
  rw [Bool.eq_iff_iff]
  simp only [List.contains_iff_mem, falseAt, List.mem_flatMap, List.mem_range, Bool.not_eq_true']
  constructor
  · rintro ⟨i, hi, h⟩
    split at h
    · simp at h
    · rename_i hb
      simp at h
      have : i = k := by omega
      subst this
      simpa using hb
  · intro h
    exact ⟨k, hk, by simp only [h]; simp⟩
end Go.Proofs.Ytilkgidilhgjeaa
