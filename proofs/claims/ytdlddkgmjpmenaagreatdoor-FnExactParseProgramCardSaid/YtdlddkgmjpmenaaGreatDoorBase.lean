/-
  The contracts of the small functions that all chapters share: ranges, copies, comparisons and marks of lists of ints, tests of all elements.
-/
import Derived.Test.YtdlddkgmjpmenaaGreatDoorLib
namespace Go.Proofs.YtdlddkgmjpmenaaGreatDoor
open Go.RowKit

/-- A bool back, nothing old has turned. -/
def RetB (b : Bool) (w : World) (e : Ending) (w' : World) : Prop := e = .returned (.bool b) ∧ Below w.heap.size w w'
/-- An int back. -/
def RetN (n : Int) (w : World) (e : Ending) (w' : World) : Prop := e = .returned (.int .i64 n) ∧ Below w.heap.size w w'
/-- An int and a bool back. -/
def RetNB (r : Int × Bool) (w : World) (e : Ending) (w' : World) : Prop := e = .returned (.tuple #[.int .i64 r.1, .bool r.2]) ∧ Below w.heap.size w w'
/-- What a call that makes a slice of ints hands back: it owns it; nothing old has turned. -/
def RetI (xs : List Int) (w : World) (e : Ending) (w' : World) : Prop := ∃ ao n cap, e = .returned (.slice ao n cap) ∧ OwnI w.heap.size w' ao n cap xs ∧ Below w.heap.size w w'
/-- The same with a bool beside it. -/
def RetIB (r : List Int × Bool) (w : World) (e : Ending) (w' : World) : Prop := ∃ ao n cap, e = .returned (.tuple #[.slice ao n cap, .bool r.2]) ∧ OwnI w.heap.size w' ao n cap r.1 ∧ Below w.heap.size w w'

/-- n lies between lo and hi: a bool that the walk does not look into. -/
def inB (n lo hi : Int) : Bool := decide (lo ≤ n) && decide (n ≤ hi)
theorem inB_iff {n lo hi : Int} : inB n lo hi = true ↔ lo ≤ n ∧ n ≤ hi := by simp [inB]
theorem inB_no {n lo hi : Int} : inB n lo hi = false ↔ ¬ (lo ≤ n ∧ n ≤ hi) := by rw [← inB_iff]; cases inB n lo hi <;> simp
def allIn (lo hi : Int) (xs : List Int) : Bool := xs.all fun x => inB x lo hi
theorem allIn_iff {lo hi : Int} {xs : List Int} : allIn lo hi xs = true ↔ ∀ x ∈ xs, lo ≤ x ∧ x ≤ hi := by simp [allIn, inB_iff]

theorem within_any (n lo hi : Int) (w : World) : Calls Tryz.prog 98 #[.int .i64 n, .int .i64 lo, .int .i64 hi] w fun e w' => e = .returned (.bool (inB n lo hi)) ∧ w = w' := by
  go_enter Tryz.func98, Tryz.ntmps98
  go_wp2
  all_goals
    go_ret
    exact ⟨ret_bool (by simp [inB]; try omega), rfl⟩
theorem l1In_any (n lo hi : Int) (w : World) : Calls Tryz.prog 95 #[.int .i64 n, .int .i64 lo, .int .i64 hi] w fun e w' => e = .returned (.bool (inB n lo hi)) ∧ w = w' := by
  go_enter Tryz.func95, Tryz.ntmps95
  go_wp2
  all_goals
    go_ret
    exact ⟨ret_bool (by simp [inB]; try omega), rfl⟩

theorem all_step {p : Int → Bool} {xs : List Int} {k : Nat} {x : Int} (hx : xs[k]? = some x) (h : (xs.take k).all p = true) (e : p x = true) : (xs.take (k + 1)).all p = true := by
  rw [List.take_add_one, hx]; simp [h, e]
theorem all_no {p : Int → Bool} {xs : List Int} {k : Nat} {x : Int} (hx : xs[k]? = some x) (e : p x = false) : xs.all p = false := by
  rw [List.all_eq_false]; exact ⟨x, List.mem_of_getElem? hx, by simp [e]⟩
theorem l1All_any (w : World) (B : Nat) (ao : Option Addr) (n c : Nat) (xs : List Int) (lo hi : Int) (ha : Ints w B ao n xs) :
    Calls Tryz.prog 81 #[.slice ao n c, .int .i64 lo, .int .i64 hi] w fun e w' => e = .returned (.bool (allIn lo hi xs)) ∧ w = w' := by
  have hn := ha.le
  go_enter Tryz.func81, Tryz.ntmps81
  go_wp2
  go_loop [11] (fun i => ∃ k : Nat, k ≤ n ∧ i = .int .i64 k ∧ Hid ((xs.take k).all (fun x => inB x lo hi) = true)) (fun i => n - (intOf i).toNat)
  case atStart => exact ⟨0, Nat.zero_le _, rfl, by simp [Hid]⟩
  case round =>
    obtain ⟨k, hk, rfl, heq⟩ := hrel
    by_cases hlt : k < n
    · obtain ⟨b1, o1, x, rfl, hb1, hx, hc1⟩ := ha.at hlt
      have HX := Lib.hid hx
      clear hx
      cases hb : inB x lo hi
      · go_wp2_with (go_at_call 95; refine (l1In_any _ _ _ _).mono ?_; rintro e w' ⟨rfl, rfl⟩)
        go_ret
        exact ⟨ret_bool (all_no HX.out hb).symm, rfl⟩
      · go_wp2_with (go_at_call 95; refine (l1In_any _ _ _ _).mono ?_; rintro e w' ⟨rfl, rfl⟩)
        go_round
        case rel => exact ⟨k + 1, by omega, by go_num, all_step HX.out heq.out hb⟩
        case measure => simp [intOf] <;> omega
    · obtain rfl : k = n := by omega
      go_wp2
      go_ret
      exact ⟨ret_bool (by have h := heq.out; rw [List.take_of_length_le (by rw [ha.1]; exact Nat.le_refl _)] at h; exact h.symm), rfl⟩

theorem eq_step {xs ys : List Int} {k : Nat} {x y : Int} (hx : xs[k]? = some x) (hy : ys[k]? = some y) (h : xs.take k = ys.take k) (e : x = y) : xs.take (k + 1) = ys.take (k + 1) := by
  rw [List.take_add_one, List.take_add_one, hx, hy, h, e]
theorem eq_no {xs ys : List Int} {k : Nat} {x y : Int} (hx : xs[k]? = some x) (hy : ys[k]? = some y) (e : x ≠ y) : decide (xs = ys) = false := by
  simp; intro h; subst h; rw [hx] at hy; exact e (by simpa using hy)
theorem eq_yes {xs ys : List Int} {n : Nat} (hx : xs.length = n) (hy : ys.length = n) (h : xs.take n = ys.take n) : decide (xs = ys) = true := by
  rw [List.take_of_length_le (by omega), List.take_of_length_le (by omega)] at h; simpa using h
def eqB (xs ys : List Int) : Bool := decide (xs = ys)
theorem eqB_self (xs : List Int) : eqB xs xs = true := by simp [eqB]
/-- The numbers that marking lays. -/
def marks (k : Int) : Nat → List Int
  | 0 => []
  | n + 1 => k :: marks (k + 1) n
theorem marks_length (k : Int) (n : Nat) : (marks k n).length = n := by induction n generalizing k <;> simp [marks, *]
theorem marks_get (k : Int) (n i : Nat) (h : i < n) : (marks k n)[i]? = some (k + i) := by
  induction n generalizing k i with
  | zero => omega
  | succ n ih =>
    cases i with
    | zero => simp [marks]
    | succ i => simp [marks]; rw [ih (k + 1) i (by omega)]; simp; omega
theorem marks_held (k : Int) (n : Nat) : ∀ (i : Nat) (x : Int), (marks k n)[i]? = some x → x = k + i := by
  intro i x h
  have hi : i < n := by
    have := (List.getElem?_eq_some_iff.1 h).1
    rwa [marks_length] at this
  rw [marks_get k n i hi] at h
  simpa using h.symm
theorem mark_set {k0 : Int} {xs : List Int} {k n : Nat} (hl : xs.length = n) (hk : k < n) : ((marks k0 k) ++ xs.drop k).set k (k0 + k) = marks k0 (k + 1) ++ xs.drop (k + 1) := by
  have hm : marks k0 (k + 1) = marks k0 k ++ [k0 + k] := by
    apply List.ext_getElem?
    intro i
    by_cases h1 : i < k
    · rw [marks_get _ _ _ (by omega), List.getElem?_append_left (by rw [marks_length]; exact h1), marks_get _ _ _ h1]
    · by_cases h2 : i = k
      · subst h2; rw [marks_get _ _ _ (by omega), List.getElem?_append_right (by rw [marks_length]; exact Nat.le_refl _)]; simp [marks_length]
      · rw [List.getElem?_eq_none (by rw [marks_length]; omega), List.getElem?_eq_none (by simp [marks_length]; omega)]
  rw [hm, List.set_append_right _ _ (by rw [marks_length]; exact Nat.le_refl _), marks_length, Nat.sub_self, List.drop_eq_getElem_cons (by omega), List.set_cons_zero, List.append_assoc]
  rfl

theorem copy_set {xs : List Int} {k n : Nat} {x : Int} (hl : xs.length = n) (hx : xs[k]? = some x) : (xs.take k ++ List.replicate (n - k) (0 : Int)).set k x = xs.take (k + 1) ++ List.replicate (n - (k + 1)) 0 := by
  have hk : k < xs.length := (List.getElem?_eq_some_iff.1 hx).1
  have hkl : (xs.take k).length = k := by simp; omega
  rw [List.set_append_right _ _ (by omega), hkl, Nat.sub_self, List.take_add_one, hx, show n - k = (n - (k + 1)) + 1 from by omega, List.replicate_succ]
  simp
end Go.Proofs.YtdlddkgmjpmenaaGreatDoor
