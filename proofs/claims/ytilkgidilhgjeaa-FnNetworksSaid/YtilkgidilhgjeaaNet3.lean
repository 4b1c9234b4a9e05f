/-
  Networks: which lists of steps are valid.
-/
import Derived.Test.YtilkgidilhgjeaaStep
namespace Go.Proofs.Ytilkgidilhgjeaa
open Go.RowKit

/-- A flat list of ints as steps. -/
def steps : List Int → List (Int × Int)
  | a :: b :: r => (a, b) :: steps r
  | _ => []
theorem steps_length : ∀ (n : Nat) (xs : List Int), xs.length = n * 2 → (steps xs).length = n
  | 0, xs, h => by have : xs = [] := List.eq_nil_of_length_eq_zero (by omega); subst this; rfl
  | n + 1, xs, h => by
    match xs, h with
    | a :: b :: r, h => simp only [steps, List.length_cons]; rw [steps_length n r (by simp at h; omega)]
    | [], h => simp at h
    | [_], h => simp at h; omega
theorem steps_get : ∀ (k : Nat) (xs : List Int) (a b : Int), xs[k * 2]? = some a → xs[k * 2 + 1]? = some b → (steps xs)[k]? = some (a, b)
  | 0, xs, a, b, h1, h2 => by
    match xs, h1, h2 with
    | x :: y :: r, h1, h2 => simp at h1 h2; simp [steps, h1, h2]
    | [], h1, _ => simp at h1
    | [_], _, h2 => simp at h2
  | k + 1, xs, a, b, h1, h2 => by
    match xs, h1, h2 with
    | x :: y :: r, h1, h2 =>
      rw [show (k + 1) * 2 = k * 2 + 1 + 1 from by omega] at h1 h2
      simp only [List.getElem?_cons_succ] at h1 h2
      simp only [steps, List.getElem?_cons_succ]
      exact steps_get k r a b h1 h2
    | [], h1, _ => simp at h1
    | [_], h1, _ => simp at h1
/-- Element k of a list of steps. -/
theorem Flat.step {w : World} {B : Nat} {ao : Option Addr} {n : Nat} {xs : List Int} (h : Flat 2 w B ao n xs) {k : Nat} (hk : k < n) :
    ∃ b off x y, ao = some ⟨b, off, none⟩ ∧ b < B ∧ (steps xs)[k]? = some (x, y) ∧ w.cell? ⟨b, off + k * 2, none⟩ = some (.int .i64 x) ∧ w.cell? ⟨b, off + k * 2 + 1, none⟩ = some (.int .i64 y) := by
  obtain ⟨b, off, rfl, hb, hat⟩ := h.at (by decide) hk
  obtain ⟨x, hx, hcx⟩ := hat 0 (by decide)
  obtain ⟨y, hy, hcy⟩ := hat 1 (by decide)
  exact ⟨b, off, x, y, rfl, hb, steps_get k xs x y hx hy, hcx, by rw [Nat.add_assoc]; exact hcy⟩

def bad (n : Int) (s : Int × Int) : Bool := decide (s.1 < 0) || (decide (s.2 ≤ s.1) || decide (n ≤ s.2))
def isNetF (n : Int) (xs : List Int) : Bool := inB n 1 12 && (decide (xs.length ≤ 120) && !(steps xs).any (bad n))
theorem bad1 {n x y : Int} (h : x < 0) : bad n (x, y) = true := by simp [bad, h]
theorem bad2 {n x y : Int} (h : y ≤ x) : bad n (x, y) = true := by simp [bad, h]
theorem bad3 {n x y : Int} (h : n ≤ y) : bad n (x, y) = true := by simp [bad, h]
theorem bad0 {n x y : Int} (h1 : ¬ x < 0) (h2 : ¬ y ≤ x) (h3 : ¬ n ≤ y) : bad n (x, y) = false := by simp [bad]; omega

theorem any_step {α : Type} {p : α → Bool} {xs : List α} {k : Nat} {x : α} (hx : xs[k]? = some x) (h : (xs.take k).any p = false) (e : p x = false) : (xs.take (k + 1)).any p = false := by
  rw [List.take_add_one, hx]; simp [h, e]
theorem any_yes {α : Type} {p : α → Bool} {xs : List α} {k : Nat} {x : α} (hx : xs[k]? = some x) (e : p x = true) : xs.any p = true := by
  rw [List.any_eq_true]; exact ⟨x, List.mem_of_getElem? hx, e⟩
theorem isNet_no {n : Int} {xs : List Int} (h : (steps xs).any (bad n) = true) : isNetF n xs = false := by simp [isNetF, h]

theorem soGood_any (w : World) (n : Int) (ao : Option Addr) (len c : Nat) (xs : List Int) (ha : Flat 2 w w.heap.size ao len xs) :
    Calls Try.prog 48 #[.int .i64 n, .slice ao len c] w (RetB (isNetF n xs) w) := by
  have hn := ha.le
  have HL := Lib.hid ha.1
  have hsl := Lib.hid (steps_length len xs ha.1)
  go_enter Try.func48, Try.ntmps48
  go_wp2_with fail
  go_loopw [9] (fun i wr => ∃ k : Nat, k ≤ len ∧ i = .int .i64 k ∧ Hid (((steps xs).take k).any (bad n) = false) ∧ Below w.heap.size w wr) (fun i _ => len - (intOf i).toNat)
  case atStart => exact ⟨0, Nat.zero_le _, rfl, by simp [Hid], Below.refl _ _⟩
  case round =>
    obtain ⟨k, hk, rfl, hacc, hbel⟩ := hrel
    by_cases hlt : k < len
    · obtain ⟨b1, o1, x, y, rfl, hb1, hx, c0, c1⟩ := ha.step hlt
      have g0 : wr.cell? ⟨b1, o1 + k * 2, none⟩ = some (.int .i64 x) := (hbel.cell (by exact hb1)).trans c0
      have g1 : wr.cell? ⟨b1, o1 + k * 2 + 1, none⟩ = some (.int .i64 y) := (hbel.cell (by exact hb1)).trans c1
      have HX := Lib.hid hx
      have hb2 : Below w.heap.size w (wr.alloc (.cells #[.int .i64 x, .int .i64 y] 62)) := hbel.alloc hbel.size _
      clear hx c0 c1
      by_cases h1 : x < 0
      · go_wp2_with fail
        go_ret
        exact ⟨ret_bool (isNet_no (any_yes HX.out (bad1 h1))).symm, hb2⟩
      · by_cases h2 : y ≤ x
        · go_wp2_with fail
          go_ret
          exact ⟨ret_bool (isNet_no (any_yes HX.out (bad2 h2))).symm, hb2⟩
        · by_cases h3 : n ≤ y
          · go_wp2_with fail
            go_ret
            exact ⟨ret_bool (isNet_no (any_yes HX.out (bad3 h3))).symm, hb2⟩
          · go_wp2_with fail
            go_roundw
            case rel => exact ⟨k + 1, by omega, by go_num, any_step HX.out hacc.out (bad0 h1 h2 h3), hb2⟩
            case measure => simp [intOf] <;> omega
    · obtain rfl : k = len := by omega
      have hany : (steps xs).any (bad n) = false := by have := hacc.out; rwa [List.take_of_length_le (by rw [hsl.out]; exact Nat.le_refl _)] at this
      have HANY := Lib.hid hany
      clear hany
      cases hin : inB n 1 12
      · go_wp2_with (go_at_call 81; refine (l1In_any _ _ _ _).mono ?_; rintro e w' ⟨rfl, rfl⟩; rw [hin])
        go_ret
        exact ⟨ret_bool (by simp [isNetF, hin]), hbel⟩
      · by_cases h60 : k ≤ 60
        · go_wp2_with (go_at_call 81; refine (l1In_any _ _ _ _).mono ?_; rintro e w' ⟨rfl, rfl⟩; rw [hin])
          go_ret
          exact ⟨ret_bool (by simp [isNetF, hin, HANY.out, HL.out]; omega), hbel⟩
        · go_wp2_with (go_at_call 81; refine (l1In_any _ _ _ _).mono ?_; rintro e w' ⟨rfl, rfl⟩; rw [hin])
          go_ret
          exact ⟨ret_bool (by simp [isNetF, hin, HANY.out, HL.out]; omega), hbel⟩
theorem spec_IsNetwork_any (w : World) (n : Int) (ao : Option Addr) (len c : Nat) (xs : List Int) (ha : Flat 2 w w.heap.size ao len xs) :
    Calls Try.prog 28 #[.int .i64 n, .slice ao len c] w (RetB (isNetF n xs) w) := by
  go_enter Try.func28, Try.ntmps28
  go_wp2_with (go_at_call 48; refine (soGood_any _ _ _ _ _ _ ha).mono ?_; rintro e w1 ⟨rfl, hb1⟩)
  go_ret
  exact ⟨rfl, hb1⟩

/-! ### Tests of all steps by a function value -/
structure PredS (g : FuncId) (caps : Array Value) (w : World) (p : Int × Int → Bool) (l : List (Int × Int)) : Prop where
  enter : ∀ (args : Array Value) (W : World), (callFunc g args).run Try.prog W = .ok (.enter g args) W
  call : ∀ x y, (x, y) ∈ l → ∀ W, Below w.heap.size w W → Calls Try.prog g (#[.agg #[.int .i64 x, .int .i64 y]] ++ caps) W fun e W' => e = .returned (.bool (p (x, y))) ∧ Below W.heap.size W W'
def idxS (p : Int × Int → Bool) (l : List (Int × Int)) : Int := match l.findIdx? p with | some i => (i : Int) | none => -1
theorem idxS_hit {p : Int × Int → Bool} {l : List (Int × Int)} {k : Nat} {s : Int × Int} (hx : l[k]? = some s) (h : (l.take k).any p = false) (e : p s = true) : idxS p l = (k : Int) := by
  have hk : k < l.length := (List.getElem?_eq_some_iff.1 hx).1
  have hxk : l[k] = s := by rw [List.getElem?_eq_getElem hk] at hx; simpa using hx
  have : l.findIdx? p = some k := by
    rw [List.findIdx?_eq_some_iff_getElem]
    refine ⟨hk, by rw [hxk]; exact e, fun j hj => ?_⟩
    have := (List.any_eq_false.1 h) l[j] (by rw [List.mem_take_iff_getElem]; exact ⟨j, by omega, rfl⟩)
    simpa using this
  simp [idxS, this]
theorem idxS_none {p : Int × Int → Bool} {l : List (Int × Int)} (h : l.any p = false) : idxS p l = -1 := by
  have : l.findIdx? p = none := by
    rw [List.findIdx?_eq_none_iff]
    intro x hx
    have := (List.any_eq_false.1 h) x hx
    simpa using this
  simp [idxS, this]
theorem idxS_any (p : Int × Int → Bool) (l : List (Int × Int)) : (l.any p = true → 0 ≤ idxS p l) ∧ (l.any p = false → idxS p l = -1) := by
  refine ⟨fun h => ?_, idxS_none⟩
  cases hf : l.findIdx? p with
  | some i => simp [idxS, hf]
  | none =>
    rw [List.findIdx?_eq_none_iff] at hf
    obtain ⟨y, hy, hpy⟩ := List.any_eq_true.1 h
    rw [hf y hy] at hpy
    cases hpy
theorem indexFuncS_any (w : World) (ao : Option Addr) (n c : Nat) (xs : List Int) (g : FuncId) (caps : Array Value) (p : Int × Int → Bool) (ha : Flat 2 w w.heap.size ao n xs) (hp : PredS g caps w p (steps xs)) :
    Calls Try.prog 110 #[.slice ao n c, .func (.func g) #[] caps] w (RetN (idxS p (steps xs)) w) := by
  have hn := ha.le
  have hen := hp.enter
  have HP := Lib.hid hp
  have hsl := Lib.hid (steps_length n xs ha.1)
  clear hp
  go_enter Try.func110, Try.ntmps110
  go_wp2
  go_loopw [8] (fun i wr => ∃ k : Nat, k ≤ n ∧ i = .int .i64 k ∧ Hid (((steps xs).take k).any p = false) ∧ Below w.heap.size w wr) (fun i _ => n - (intOf i).toNat)
  case atStart => exact ⟨0, Nat.zero_le _, rfl, by simp [Hid], Below.refl _ _⟩
  case round =>
    obtain ⟨k, hk, rfl, hacc, hbel⟩ := hrel
    by_cases hlt : k < n
    · obtain ⟨b1, o1, x, y, rfl, hb1, hx, c0, c1⟩ := ha.step hlt
      have g0 : wr.cell? ⟨b1, o1 + k * 2, none⟩ = some (.int .i64 x) := (hbel.cell (by exact hb1)).trans c0
      have g1 : wr.cell? ⟨b1, o1 + k * 2 + 1, none⟩ = some (.int .i64 y) := (hbel.cell (by exact hb1)).trans c1
      have HX := Lib.hid hx
      have hcl := HP.out.call x y (List.mem_of_getElem? hx) wr hbel
      have HC := Lib.hid hcl
      clear hcl hx c0 c1
      cases hpx : p (x, y)
      · go_wp2_with (with_reducible refine (HC.out).mono ?_; rintro e w1 ⟨rfl, hbx⟩; rw [hpx])
        go_roundw
        case rel => exact ⟨k + 1, by omega, by go_num, any_step HX.out hacc.out hpx, hbel.trans (hbx.mono hbel.size)⟩
        case measure => simp [intOf] <;> omega
      · go_wp2_with (with_reducible refine (HC.out).mono ?_; rintro e w1 ⟨rfl, hbx⟩; rw [hpx])
        go_ret
        exact ⟨ret_int (idxS_hit HX.out hacc.out hpx).symm, hbel.trans (hbx.mono hbel.size)⟩
    · obtain rfl : k = n := by omega
      go_wp2
      go_ret
      exact ⟨ret_int (idxS_none (by have h := hacc.out; rwa [List.take_of_length_le (by rw [hsl.out]; exact Nat.le_refl _)] at h)).symm, hbel⟩
theorem containsFuncS_any (w : World) (ao : Option Addr) (n c : Nat) (xs : List Int) (g : FuncId) (caps : Array Value) (p : Int × Int → Bool) (ha : Flat 2 w w.heap.size ao n xs) (hp : PredS g caps w p (steps xs)) :
    Calls Try.prog 75 #[.slice ao n c, .func (.func g) #[] caps] w (RetB ((steps xs).any p) w) := by
  have hn := ha.le
  have HP := Lib.hid hp
  clear hp
  have hi := idxS_any p (steps xs)
  cases hx : (steps xs).any p
  · have h1 : idxS p (steps xs) < 0 := by rw [hi.2 hx]; decide
    clear hi
    go_enter Try.func75, Try.ntmps75
    go_wp2_with (go_at_call 110; refine (indexFuncS_any _ _ _ _ _ _ _ _ ha HP.out).mono ?_; rintro e w1 ⟨rfl, hb1⟩)
    go_ret
    exact ⟨ret_bool (by simp; try omega), hb1⟩
  · have h1 : 0 ≤ idxS p (steps xs) := hi.1 hx
    clear hi
    go_enter Try.func75, Try.ntmps75
    go_wp2_with (go_at_call 110; refine (indexFuncS_any _ _ _ _ _ _ _ _ ha HP.out).mono ?_; rintro e w1 ⟨rfl, hb1⟩)
    go_ret
    exact ⟨ret_bool (by simp; try omega), hb1⟩
theorem isNet1_any (W : World) (b : Nat) (x y n : Int) (hbox : W.cell? ⟨b, 0, none⟩ = some (.int .i64 n)) (hb : b < W.heap.size) :
    Calls Try.prog 76 #[.agg #[.int .i64 x, .int .i64 y], .pointer (some ⟨b, 0, none⟩)] W fun e W' => e = .returned (.bool (bad n (x, y))) ∧ Below W.heap.size W W' := by
  have hb0 : Below W.heap.size W (W.alloc (.cells #[.int .i64 x, .int .i64 y] 62)) := (Below.refl _ _).alloc (Nat.le_refl _) _
  have hb1 : (W.alloc (.cells #[.int .i64 x, .int .i64 y] 62)).cell? ⟨b, 0, none⟩ = some (.int .i64 n) := (hb0.cell (by exact hb)).trans hbox
  by_cases h1 : x < 0
  · go_enter Try.func76, Try.ntmps76
    go_wp2_with fail
    go_ret
    exact ⟨ret_bool (bad1 h1).symm, hb0⟩
  · by_cases h2 : y ≤ x
    · go_enter Try.func76, Try.ntmps76
      go_wp2_with fail
      go_ret
      exact ⟨ret_bool (bad2 h2).symm, hb0⟩
    · by_cases h3 : n ≤ y
      · go_enter Try.func76, Try.ntmps76
        go_wp2_with fail
        go_ret
        exact ⟨ret_bool (bad3 h3).symm, hb0⟩
      · go_enter Try.func76, Try.ntmps76
        go_wp2_with fail
        go_ret
        exact ⟨ret_bool (bad0 (by omega) (by omega) (by omega)).symm, hb0⟩
theorem impl_IsNetwork_any (w : World) (n : Int) (ao : Option Addr) (len c : Nat) (xs : List Int) (ha : Flat 2 w w.heap.size ao len xs) :
    Calls Try.prog 27 #[.int .i64 n, .slice ao len c] w (RetB (isNetF n xs) w) := by
  have hn := ha.le
  have HL := Lib.hid ha.1
  have hb0 : Below w.heap.size w (w.alloc (.cells #[.int .i64 n] 3)) := (Below.refl _ _).alloc (Nat.le_refl _) _
  have HA := Lib.hid ((ha.below hb0 (Nat.le_refl _)).up hb0.size)
  have HP : PredS 76 #[.pointer (some ⟨w.heap.size, 0, none⟩)] (w.alloc (.cells #[.int .i64 n] 3)) (bad n) (steps xs) := by
    refine ⟨fun args W => by kernel_rfl, fun x y hx W hW => ?_⟩
    have hlt : w.heap.size < (w.alloc (.cells #[.int .i64 n] 3)).heap.size := by simp
    refine isNet1_any W w.heap.size x y n ?_ (Nat.lt_of_lt_of_le hlt hW.size)
    rw [hW.cell (p := ⟨w.heap.size, 0, none⟩) (by simp)]
    rw [cell_of_row _ w.heap.size 0 #[.int .i64 n] 3 (0, 0) (heap_alloc_new w _)]; rfl
  have HH := Lib.hid HP
  clear HP
  cases hin : inB n 1 12
  · go_enter Try.func27, Try.ntmps27
    go_wp2_with (go_at_call 71; refine (within_any _ _ _ _).mono ?_; rintro e w' ⟨rfl, rfl⟩; rw [hin])
    go_ret
    exact ⟨ret_bool (by simp [isNetF, hin]), hb0⟩
  · by_cases h60 : len ≤ 60
    · go_enter Try.func27, Try.ntmps27
      go_wp2_with (first | (go_at_call 71; refine (within_any _ _ _ _).mono ?_; rintro e w' ⟨rfl, rfl⟩; rw [hin]) | (go_at_call 75; refine (containsFuncS_any _ _ _ _ _ _ _ _ HA.out HH.out).mono ?_; rintro e w1 ⟨rfl, hb1⟩))
      go_ret
      exact ⟨ret_bool (by simp [isNetF, hin, HL.out]; try omega), hb0.trans (hb1.mono hb0.size)⟩
    · have h60d : decide ((len : Int) ≤ 60) = false := by simp; omega
      go_enter Try.func27, Try.ntmps27
      go_wp2_with (go_at_call 71; refine (within_any _ _ _ _).mono ?_; rintro e w' ⟨rfl, rfl⟩; rw [hin])
      go_ret
      exact ⟨ret_bool (by simp [isNetF, hin, HL.out]; try omega), hb0⟩
end Go.Proofs.Ytilkgidilhgjeaa
