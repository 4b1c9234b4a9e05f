/-
  The contracts of the small functions that all chapters share: ranges, copies, comparisons and marks of lists of ints, tests of all elements.
-/
import Derived.Test.YtilkgidilhgjeaaLib
namespace Go.Proofs.Ytilkgidilhgjeaa
open Go.RowKit

/-- A bool back, nothing old has turned. -/
def RetB (b : Bool) (w : World) (e : Ending) (w' : World) : Prop := e = .returned (.bool b) ∧ Below w.heap.size w w'
/-- An int back. -/
def RetN (n : Int) (w : World) (e : Ending) (w' : World) : Prop := e = .returned (.int .i64 n) ∧ Below w.heap.size w w'
/-- An int and a bool back. -/
def RetNB (r : Int × Bool) (w : World) (e : Ending) (w' : World) : Prop := e = .returned (.tuple #[.int .i64 r.1, .bool r.2]) ∧ Below w.heap.size w w'
/-- What a call that makes a slice of ints hands back: it owns it; nothing old has turned. -/
def RetI (xs : List Int) (w : World) (e : Ending) (w' : World) : Prop := ∃ ao n cap, e = .returned (.slice ao n cap) ∧ OwnI w.heap.size w' ao n cap xs ∧ Below w.heap.size w w'
/-- The same with a bool beside it. -/
def RetIB (r : List Int × Bool) (w : World) (e : Ending) (w' : World) : Prop := ∃ ao n cap, e = .returned (.tuple #[.slice ao n cap, .bool r.2]) ∧ OwnI w.heap.size w' ao n cap r.1 ∧ Below w.heap.size w w'

/-- n lies between lo and hi: a bool that the walk does not look into. -/
def inB (n lo hi : Int) : Bool := decide (lo ≤ n) && decide (n ≤ hi)
theorem inB_iff {n lo hi : Int} : inB n lo hi = true ↔ lo ≤ n ∧ n ≤ hi := by simp [inB]
theorem inB_no {n lo hi : Int} : inB n lo hi = false ↔ ¬ (lo ≤ n ∧ n ≤ hi) := by rw [← inB_iff]; cases inB n lo hi <;> simp
def allIn (lo hi : Int) (xs : List Int) : Bool := xs.all fun x => inB x lo hi
theorem allIn_iff {lo hi : Int} {xs : List Int} : allIn lo hi xs = true ↔ ∀ x ∈ xs, lo ≤ x ∧ x ≤ hi := by simp [allIn, inB_iff]

theorem within_any (n lo hi : Int) (w : World) : Calls Try.prog 71 #[.int .i64 n, .int .i64 lo, .int .i64 hi] w fun e w' => e = .returned (.bool (inB n lo hi)) ∧ w = w' := by
  go_enter Try.func71, Try.ntmps71
  go_wp2
  all_goals
    go_ret
    exact ⟨ret_bool (by simp [inB]; try omega), rfl⟩
theorem l1In_any (n lo hi : Int) (w : World) : Calls Try.prog 81 #[.int .i64 n, .int .i64 lo, .int .i64 hi] w fun e w' => e = .returned (.bool (inB n lo hi)) ∧ w = w' := by
  go_enter Try.func81, Try.ntmps81
  go_wp2
  all_goals
    go_ret
    exact ⟨ret_bool (by simp [inB]; try omega), rfl⟩

theorem all_step {p : Int → Bool} {xs : List Int} {k : Nat} {x : Int} (hx : xs[k]? = some x) (h : (xs.take k).all p = true) (e : p x = true) : (xs.take (k + 1)).all p = true := by
  rw [List.take_add_one, hx]; simp [h, e]
theorem all_no {p : Int → Bool} {xs : List Int} {k : Nat} {x : Int} (hx : xs[k]? = some x) (e : p x = false) : xs.all p = false := by
  rw [List.all_eq_false]; exact ⟨x, List.mem_of_getElem? hx, by simp [e]⟩
theorem l1All_any (w : World) (B : Nat) (ao : Option Addr) (n c : Nat) (xs : List Int) (lo hi : Int) (ha : Ints w B ao n xs) :
    Calls Try.prog 73 #[.slice ao n c, .int .i64 lo, .int .i64 hi] w fun e w' => e = .returned (.bool (allIn lo hi xs)) ∧ w = w' := by
  have hn := ha.le
  go_enter Try.func73, Try.ntmps73
  go_wp2
  go_loop [11] (fun i => ∃ k : Nat, k ≤ n ∧ i = .int .i64 k ∧ Hid ((xs.take k).all (fun x => inB x lo hi) = true)) (fun i => n - (intOf i).toNat)
  case atStart => exact ⟨0, Nat.zero_le _, rfl, by simp [Hid]⟩
  case round =>
    obtain ⟨k, hk, rfl, heq⟩ := hrel
    by_cases hlt : k < n
    · obtain ⟨b1, o1, x, rfl, hb1, hx, hc1⟩ := ha.at hlt
      have HX := Lib.hid hx
      clear hx
      cases hb : inB x lo hi
      · go_wp2_with (go_at_call 81; refine (l1In_any _ _ _ _).mono ?_; rintro e w' ⟨rfl, rfl⟩)
        go_ret
        exact ⟨ret_bool (all_no HX.out hb).symm, rfl⟩
      · go_wp2_with (go_at_call 81; refine (l1In_any _ _ _ _).mono ?_; rintro e w' ⟨rfl, rfl⟩)
        go_round
        case rel => exact ⟨k + 1, by omega, by go_num, all_step HX.out heq.out hb⟩
        case measure => simp [intOf] <;> omega
    · obtain rfl : k = n := by omega
      go_wp2
      go_ret
      exact ⟨ret_bool (by have h := heq.out; rw [List.take_of_length_le (by rw [ha.1]; exact Nat.le_refl _)] at h; exact h.symm), rfl⟩

theorem eq_step {xs ys : List Int} {k : Nat} {x y : Int} (hx : xs[k]? = some x) (hy : ys[k]? = some y) (h : xs.take k = ys.take k) (e : x = y) : xs.take (k + 1) = ys.take (k + 1) := by
  rw [List.take_add_one, List.take_add_one, hx, hy, h, e]
theorem eq_no {xs ys : List Int} {k : Nat} {x y : Int} (hx : xs[k]? = some x) (hy : ys[k]? = some y) (e : x ≠ y) : decide (xs = ys) = false := by
  simp; intro h; subst h; rw [hx] at hy; exact e (by simpa using hy)
theorem eq_yes {xs ys : List Int} {n : Nat} (hx : xs.length = n) (hy : ys.length = n) (h : xs.take n = ys.take n) : decide (xs = ys) = true := by
  rw [List.take_of_length_le (by omega), List.take_of_length_le (by omega)] at h; simpa using h
def eqB (xs ys : List Int) : Bool := decide (xs = ys)
theorem eqB_self (xs : List Int) : eqB xs xs = true := by simp [eqB]
theorem eqIntS_any (w : World) (B C : Nat) (ao bo : Option Addr) (n m c d : Nat) (xs ys : List Int) (ha : Ints w B ao n xs) (hb : Ints w C bo m ys) (hB : B ≤ w.heap.size) (hC : C ≤ w.heap.size) :
    Calls Try.prog 51 #[.slice ao n c, .slice bo m d] w (RetB (eqB xs ys) w) := by
  have hn := ha.le
  have hm := hb.le
  by_cases hnm : n = m
  · obtain rfl := hnm
    go_enter Try.func51, Try.ntmps51
    go_wp2
    go_loopw [5] (fun i wr => ∃ k : Nat, k ≤ n ∧ i = .int .i64 k ∧ Hid (xs.take k = ys.take k) ∧ Below w.heap.size w wr) (fun i _ => n - (intOf i).toNat)
    case atStart => exact ⟨0, Nat.zero_le _, rfl, by simp [Hid], Below.refl _ _⟩
    case round =>
      obtain ⟨k, hk, rfl, heq, hbel⟩ := hrel
      by_cases hlt : k < n
      · obtain ⟨b1, o1, x, rfl, hb1, hx, hc1⟩ := ha.at hlt
        obtain ⟨b2, o2, y, rfl, hb2, hy, hc2⟩ := hb.at hlt
        have HX := Lib.hid hx
        have HY := Lib.hid hy
        clear hx hy
        have g1 : wr.cell? ⟨b1, o1 + k, none⟩ = some (.int .i64 x) := (hbel.cell (by exact Nat.lt_of_lt_of_le hb1 hB)).trans hc1
        have g2 : wr.cell? ⟨b2, o2 + k, none⟩ = some (.int .i64 y) := (hbel.cell (by exact Nat.lt_of_lt_of_le hb2 hC)).trans hc2
        go_wp2
        go_quiet (fail)
        go_wp2
        · have hne : (x != y) = true := by assumption
          go_ret
          exact ⟨ret_bool (eq_no HX.out HY.out (by simpa using hne)).symm, bdrewN hbel _⟩
        · have hne : (x != y) = false := by assumption
          go_roundw
          case rel => exact ⟨k + 1, by omega, by go_num, eq_step HX.out HY.out heq.out (by simpa using hne), bdrewN hbel _⟩
          case measure => simp [intOf] <;> omega
      · obtain rfl : k = n := by omega
        go_wp2
        go_ret
        exact ⟨ret_bool (eq_yes ha.1 hb.1 heq.out).symm, hbel⟩
  · go_enter Try.func51, Try.ntmps51
    have h1 : ((n : Int) != (m : Int)) = true := by simp; omega
    go_wp2
    go_ret
    exact ⟨ret_bool (by unfold eqB; symm; simp; rintro rfl; exact hnm (ha.1.symm.trans hb.1)), Below.refl _ _⟩

theorem heldIntS_any (w : World) (B : Nat) (ao : Option Addr) (n c : Nat) (k0 : Int) (xs : List Int) (ha : Ints w B ao n xs) (hk0 : 0 ≤ k0) (hk1 : k0 ≤ 1000000000000)
    (hx : ∀ (i : Nat) (x : Int), xs[i]? = some x → x = k0 + i) :
    Calls Try.prog 54 #[.slice ao n c, .int .i64 k0] w fun e w' => e = .returned (.int .i64 (k0 + n)) ∧ w = w' := by
  have hn := ha.le
  have HX := Lib.hid hx
  clear hx
  go_enter Try.func54, Try.ntmps54
  go_wp2
  go_loop [1, 5] (fun q i => ∃ k : Nat, k ≤ n ∧ i = .int .i64 k ∧ q = .int .i64 (k0 + k)) (fun _ i => n - (intOf i).toNat)
  case atStart => exact ⟨0, Nat.zero_le _, rfl, by simp⟩
  case round =>
    obtain ⟨k, hk, rfl, rfl⟩ := hrel
    by_cases hlt : k < n
    · obtain ⟨b1, o1, x, rfl, hb1, hx, hc1⟩ := ha.at hlt
      obtain rfl := HX.out k x hx
      clear hx
      go_wp2
      go_round
      case rel => exact ⟨k + 1, by omega, by go_num, by go_num⟩
      case measure => simp [intOf] <;> omega
    · obtain rfl : k = n := by omega
      go_wp2
      go_ret
      exact ⟨rfl, rfl⟩

/-- The numbers that marking lays. -/
def marks (k : Int) : Nat → List Int
  | 0 => []
  | n + 1 => k :: marks (k + 1) n
theorem marks_length (k : Int) (n : Nat) : (marks k n).length = n := by induction n generalizing k <;> simp [marks, *]
theorem marks_get (k : Int) (n i : Nat) (h : i < n) : (marks k n)[i]? = some (k + i) := by
  induction n generalizing k i with
  | zero => omega
  | succ n ih =>
    cases i with
    | zero => simp [marks]
    | succ i => simp [marks]; rw [ih (k + 1) i (by omega)]; simp; omega
theorem marks_held (k : Int) (n : Nat) : ∀ (i : Nat) (x : Int), (marks k n)[i]? = some x → x = k + i := by
  intro i x h
  have hi : i < n := by
    have := (List.getElem?_eq_some_iff.1 h).1
    rwa [marks_length] at this
  rw [marks_get k n i hi] at h
  simpa using h.symm
theorem mark_set {k0 : Int} {xs : List Int} {k n : Nat} (hl : xs.length = n) (hk : k < n) : ((marks k0 k) ++ xs.drop k).set k (k0 + k) = marks k0 (k + 1) ++ xs.drop (k + 1) := by
  have hm : marks k0 (k + 1) = marks k0 k ++ [k0 + k] := by
    apply List.ext_getElem?
    intro i
    by_cases h1 : i < k
    · rw [marks_get _ _ _ (by omega), List.getElem?_append_left (by rw [marks_length]; exact h1), marks_get _ _ _ h1]
    · by_cases h2 : i = k
      · subst h2; rw [marks_get _ _ _ (by omega), List.getElem?_append_right (by rw [marks_length]; exact Nat.le_refl _)]; simp [marks_length]
      · rw [List.getElem?_eq_none (by rw [marks_length]; omega), List.getElem?_eq_none (by simp [marks_length]; omega)]
  rw [hm, List.set_append_right _ _ (by rw [marks_length]; exact Nat.le_refl _), marks_length, Nat.sub_self, List.drop_eq_getElem_cons (by omega), List.set_cons_zero, List.append_assoc]
  rfl

/-- Marking a slice that the call owns: it reads as the marks behind it; only its own row has turned. -/
theorem markIntS_any (w : World) (B : Nat) (ao : Option Addr) (n cap : Nat) (k0 : Int) (xs : List Int) (ho : OwnI B w ao n cap xs) (hk0 : 0 ≤ k0) (hk1 : k0 ≤ 1000000000000) :
    Calls Try.prog 53 #[.slice ao n cap, .int .i64 k0] w fun e w' => e = .returned (.int .i64 (k0 + n)) ∧ OwnI B w' ao n cap (marks k0 n) ∧ w.grownBy w' (rowOf ao cap) := by
  have hn := ho.le
  rcases Nat.eq_zero_or_pos n with rfl | hp
  · have hx : xs = [] := List.eq_nil_of_length_eq_zero ho.1
    subst hx
    go_enter Try.func53, Try.ntmps53
    go_wp2
    refine wp_loop_rounds 1 ?_
    rw [rounds_succ]
    go_wp2
    go_ret
    exact ⟨by simp, by simpa [marks] using ho, World.grownBy.refl _ _⟩
  · obtain ⟨g, rfl, hBg, hgl, hrow⟩ := ho.2.2.some hp
    have hcap : cap ≠ 0 := by
      rcases hrow.2 with ⟨hv, h0⟩ | ⟨g', cap', cur, hv, _, _, hn', _⟩
      · omega
      · simp only [Value.slice.injEq] at hv
        obtain ⟨_, _, rfl⟩ := hv
        omega
    have hlen := ho.1
    go_enter Try.func53, Try.ntmps53
    go_wp2
    go_loopw [1, 5] (fun q i wr => ∃ k : Nat, k ≤ n ∧ i = .int .i64 k ∧ q = .int .i64 (k0 + k) ∧ wr.ownsRow B 3 1 (.slice (some ⟨g, 0, none⟩) n cap) n ((marks k0 k ++ xs.drop k).map (Value.int .i64)) ∧ w.grownBy wr (some g)) (fun _ i _ => n - (intOf i).toNat)
    case atStart => exact ⟨0, Nat.zero_le _, rfl, by simp, by simpa [marks] using hrow, World.grownBy.refl _ _⟩
    case round =>
      obtain ⟨k, hk, rfl, rfl, hr, hg⟩ := hrel
      by_cases hlt : k < n
      · have HL := Lib.hid hlen
        obtain ⟨u, hu⟩ : ∃ u, wr.cell? ⟨g, k, none⟩ = some u := by
          rw [World.ownsRow.cellAt hr k (by omega)]
          refine ⟨_, List.getElem?_eq_getElem (by simp [marks_length]; omega)⟩
        have hf := World.ownsRow.frozenAt hr k
        have hst := World.ownsRow.stored hr k (.int .i64 (k0 + k))
        rw [← List.map_set, mark_set HL.out hlt] at hst
        clear hr
        go_wp2
        go_roundw
        case rel => exact ⟨k + 1, by omega, by go_num, by go_num, hst.1, ⟨hst.2.os.trans hg.os, hst.2.tape.trans hg.tape, hst.2.output.trans hg.output, Nat.le_trans hg.size hst.2.size, fun j hj hne => (hst.2.block j (Nat.lt_of_lt_of_le hj hg.size) hne).trans (hg.block j hj hne)⟩⟩
        case measure => simp [intOf] <;> omega
      · obtain rfl : k = n := by omega
        go_wp2
        go_ret
        rw [List.drop_of_length_le (by rw [hlen]; exact Nat.le_refl _), List.append_nil] at hr
        exact ⟨rfl, ⟨marks_length _ _, hn, .inr ⟨g, rfl, hr⟩⟩, by simpa [rowOf, hcap] using hg⟩

theorem copy_set {xs : List Int} {k n : Nat} {x : Int} (hl : xs.length = n) (hx : xs[k]? = some x) : (xs.take k ++ List.replicate (n - k) (0 : Int)).set k x = xs.take (k + 1) ++ List.replicate (n - (k + 1)) 0 := by
  have hk : k < xs.length := (List.getElem?_eq_some_iff.1 hx).1
  have hkl : (xs.take k).length = k := by simp; omega
  rw [List.set_append_right _ _ (by omega), hkl, Nat.sub_self, List.take_add_one, hx, show n - k = (n - (k + 1)) + 1 from by omega, List.replicate_succ]
  simp
/-- The copy that the laws make of a list of ints. -/
theorem toIntS_any (w : World) (ao : Option Addr) (n c : Nat) (xs : List Int) (ha : Ints w w.heap.size ao n xs) :
    Calls Try.prog 60 #[.slice ao n c] w (RetI xs w) := by
  have hn := ha.le
  obtain ⟨i0, hi, hz0, hz1, hz2⟩ := info_parts int_info
  have hlen := Lib.hid ha.1
  go_enter Try.func60, Try.ntmps60
  go_wp2_with (at_make; refine wpList_make_full _ rfl _ _ 35 rfl w.heap.size 3 i0 (.int .i64 0) 1 Try.underlying35 hi hz0 hz1 _ _ _ _ n rfl rfl rfl rfl (by rw [hz2]; omega) (by unfold maxLen; omega) (Nat.le_refl _) ?_; intro w1 hown1 hg1)
  rw [show (Value.int IntKind.i64 0).cells = #[.int .i64 0] from rfl, toList_madeCells_one, Nat.mul_one, show List.replicate n (Value.int .i64 0) = (xs.take 0 ++ List.replicate (n - 0) (0 : Int)).map (Value.int .i64) from by simp] at hown1
  have hb1 : Below w.heap.size w w1 := (Below.refl _ _).grown hg1 (Nat.le_refl _) (by simp)
  go_loopw [4] (fun i wr => ∃ k : Nat, k ≤ n ∧ i = .int .i64 k ∧ wr.ownsRow w.heap.size 3 1 (.slice (some ⟨w.heap.size, 0, none⟩) n n) n ((xs.take k ++ List.replicate (n - k) (0 : Int)).map (Value.int .i64)) ∧ Below w.heap.size w wr) (fun i _ => n - (intOf i).toNat)
  case atStart => exact ⟨0, Nat.zero_le _, rfl, hown1, hb1⟩
  case round =>
    obtain ⟨k, hk, rfl, hr, hbel⟩ := hrel
    by_cases hlt : k < n
    · obtain ⟨b1, o1, x, rfl, hbl, hx, hc1⟩ := ha.at hlt
      have g1 : wr.cell? ⟨b1, o1 + k, none⟩ = some (.int .i64 x) := (hbel.cell (by exact hbl)).trans hc1
      obtain ⟨u, hu⟩ : ∃ u, wr.cell? ⟨w.heap.size, k, none⟩ = some u := by
        rw [World.ownsRow.cellAt hr k (by omega)]
        refine ⟨_, List.getElem?_eq_getElem (by simp [hlen.out]; omega)⟩
      have hf := World.ownsRow.frozenAt hr k
      have hst := World.ownsRow.stored hr k (.int .i64 x)
      rw [← List.map_set, copy_set hlen.out hx] at hst
      clear hr hx
      go_wp2
      go_roundw
      case rel => exact ⟨k + 1, by omega, by go_num, hst.1, hbel.grown hst.2 (by have := hbel.size; omega) (by simp)⟩
      case measure => simp [intOf] <;> omega
    · obtain rfl : k = n := by omega
      go_wp2
      go_ret
      rw [List.take_of_length_le (by rw [hlen.out]; exact Nat.le_refl _), Nat.sub_self, List.replicate_zero, List.append_nil] at hr
      exact ⟨_, _, _, rfl, ⟨hlen.out, hn, .inr ⟨_, rfl, hr⟩⟩, hbel⟩
end Go.Proofs.Ytilkgidilhgjeaa
