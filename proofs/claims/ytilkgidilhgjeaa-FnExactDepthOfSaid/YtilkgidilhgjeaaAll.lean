/-
  Tests of all elements by a function value: slices.IndexFunc, slices.ContainsFunc, impl.areAll, for whatever function value answers by a predicate.
-/
import Derived.Test.YtilkgidilhgjeaaBase
namespace Go.Proofs.Ytilkgidilhgjeaa
open Go.RowKit

/-- The function value g over what it captured answers by p on the numbers xs, in every world that is as w below its end. -/
structure Pred (g : FuncId) (caps : Array Value) (w : World) (p : Int → Bool) (xs : List Int) : Prop where
  enter : ∀ (args : Array Value) (W : World), (callFunc g args).run Try.prog W = .ok (.enter g args) W
  call : ∀ x ∈ xs, ∀ W, Below w.heap.size w W → Calls Try.prog g (#[.int .i64 x] ++ caps) W fun e W' => e = .returned (.bool (p x)) ∧ Below W.heap.size W W'

def idxP (p : Int → Bool) (xs : List Int) : Int := match xs.findIdx? p with | some i => (i : Int) | none => -1

theorem idx_step {p : Int → Bool} {xs : List Int} {k : Nat} {x : Int} (hx : xs[k]? = some x) (h : ∀ y ∈ xs.take k, p y = false) (e : p x = false) : ∀ y ∈ xs.take (k + 1), p y = false := by
  intro y hy
  rw [List.take_add_one, hx] at hy
  rcases List.mem_append.1 hy with hy | hy
  · exact h y hy
  · simp at hy; subst hy; exact e
theorem idx_hit {p : Int → Bool} {xs : List Int} {k : Nat} {x : Int} (hx : xs[k]? = some x) (h : ∀ y ∈ xs.take k, p y = false) (e : p x = true) : idxP p xs = (k : Int) := by
  have hk : k < xs.length := (List.getElem?_eq_some_iff.1 hx).1
  have hxk : xs[k] = x := by rw [List.getElem?_eq_getElem hk] at hx; simpa using hx
  have : xs.findIdx? p = some k := by
    rw [List.findIdx?_eq_some_iff_getElem]
    refine ⟨hk, by rw [hxk]; exact e, fun j hj => ?_⟩
    have := h xs[j] (by rw [List.mem_take_iff_getElem]; exact ⟨j, by omega, rfl⟩)
    simp [this]
  simp [idxP, this]
theorem idx_none {p : Int → Bool} {xs : List Int} (h : ∀ y ∈ xs, p y = false) : idxP p xs = -1 := by
  have : xs.findIdx? p = none := by rw [List.findIdx?_eq_none_iff]; exact h
  simp [idxP, this]
theorem idx_any (p : Int → Bool) (xs : List Int) : (xs.any p = true → 0 ≤ idxP p xs) ∧ (xs.any p = false → idxP p xs = -1) := by
  constructor
  · intro h
    cases hf : xs.findIdx? p with
    | some i => simp [idxP, hf]
    | none =>
      rw [List.findIdx?_eq_none_iff] at hf
      obtain ⟨y, hy, hpy⟩ := List.any_eq_true.1 h
      rw [hf y hy] at hpy
      cases hpy
  · intro h
    exact idx_none fun y hy => by
      have := List.any_eq_false.1 h y hy
      simpa using this
theorem indexFuncI_any (w : World) (ao : Option Addr) (n c : Nat) (xs : List Int) (g : FuncId) (caps : Array Value) (p : Int → Bool) (ha : Ints w w.heap.size ao n xs) (hp : Pred g caps w p xs) :
    Calls Try.prog 116 #[.slice ao n c, .func (.func g) #[] caps] w (RetN (idxP p xs) w) := by
  have hn := ha.le
  have hen := hp.enter
  have HP := Lib.hid hp
  clear hp
  go_enter Try.func116, Try.ntmps116
  go_wp2
  go_loopw [8] (fun i wr => ∃ k : Nat, k ≤ n ∧ i = .int .i64 k ∧ Hid (∀ x ∈ xs.take k, p x = false) ∧ Below w.heap.size w wr) (fun i _ => n - (intOf i).toNat)
  case atStart => exact ⟨0, Nat.zero_le _, rfl, by simp [Hid], Below.refl _ _⟩
  case round =>
    obtain ⟨k, hk, rfl, heq, hbel⟩ := hrel
    by_cases hlt : k < n
    · obtain ⟨b1, o1, x, rfl, hb1, hx, hc1⟩ := ha.at hlt
      have g1 : wr.cell? ⟨b1, o1 + k, none⟩ = some (.int .i64 x) := (hbel.cell (by exact hb1)).trans hc1
      have hmem : x ∈ xs := List.mem_of_getElem? hx
      have HX := Lib.hid hx
      clear hx
      have hcl := HP.out.call x hmem wr hbel
      have HC := Lib.hid hcl
      clear hcl hmem
      cases hpx : p x
      · go_wp2_with (with_reducible refine (HC.out).mono ?_; rintro e w1 ⟨rfl, hbx⟩; rw [hpx])
        go_roundw
        case rel => exact ⟨k + 1, by omega, by go_num, idx_step HX.out heq.out hpx, hbel.trans (hbx.mono hbel.size)⟩
        case measure => simp [intOf] <;> omega
      · go_wp2_with (with_reducible refine (HC.out).mono ?_; rintro e w1 ⟨rfl, hbx⟩; rw [hpx])
        go_ret
        exact ⟨ret_int (idx_hit HX.out heq.out hpx).symm, hbel.trans (hbx.mono hbel.size)⟩
    · obtain rfl : k = n := by omega
      go_wp2
      go_ret
      exact ⟨ret_int (idx_none (by have h := heq.out; rwa [List.take_of_length_le (by rw [ha.1]; exact Nat.le_refl _)] at h)).symm, hbel⟩

theorem containsFuncI_any (w : World) (ao : Option Addr) (n c : Nat) (xs : List Int) (g : FuncId) (caps : Array Value) (p : Int → Bool) (ha : Ints w w.heap.size ao n xs) (hp : Pred g caps w p xs) :
    Calls Try.prog 106 #[.slice ao n c, .func (.func g) #[] caps] w (RetB (xs.any p) w) := by
  have hn := ha.le
  have HP := Lib.hid hp
  clear hp
  have hi := idx_any p xs
  cases hx : xs.any p
  · have h1 : idxP p xs < 0 := by rw [hi.2 hx]; decide
    clear hi
    go_enter Try.func106, Try.ntmps106
    go_wp2_with (go_at_call 116; refine (indexFuncI_any _ _ _ _ _ _ _ _ ha HP.out).mono ?_; rintro e w1 ⟨rfl, hb1⟩)
    go_ret
    exact ⟨ret_bool (by simp; try omega), hb1⟩
  · have h1 : 0 ≤ idxP p xs := hi.1 hx
    clear hi
    go_enter Try.func106, Try.ntmps106
    go_wp2_with (go_at_call 116; refine (indexFuncI_any _ _ _ _ _ _ _ _ ha HP.out).mono ?_; rintro e w1 ⟨rfl, hb1⟩)
    go_ret
    exact ⟨ret_bool (by simp; try omega), hb1⟩

/-- The closure within areAll: what it captured is a box that holds the function value. -/
theorem areAll1_any (W : World) (b : Nat) (x : Int) (g : FuncId) (caps : Array Value) (p : Int → Bool) (hbox : W.cell? ⟨b, 0, none⟩ = some (.func (.func g) #[] caps))
    (hen : ∀ (args : Array Value) (W : World), (callFunc g args).run Try.prog W = .ok (.enter g args) W)
    (hcl : Calls Try.prog g (#[.int .i64 x] ++ caps) W fun e W' => e = .returned (.bool (p x)) ∧ Below W.heap.size W W') :
    Calls Try.prog 107 #[.int .i64 x, .pointer (some ⟨b, 0, none⟩)] W fun e W' => e = .returned (.bool (!p x)) ∧ Below W.heap.size W W' := by
  have HC := Lib.hid hcl
  clear hcl
  go_enter Try.func107, Try.ntmps107
  go_wp2_with (with_reducible refine (HC.out).mono ?_; rintro e w1 ⟨rfl, hbx⟩)
  go_ret
  exact ⟨rfl, hbx⟩

theorem any_not (p : Int → Bool) (xs : List Int) : (xs.any fun x => !p x) = !xs.all p := by induction xs <;> simp [*]
theorem cell_new (w : World) (v : Value) (t : TypeId) : (w.alloc (.cells #[v] t)).cell? ⟨w.heap.size, 0, none⟩ = some v := by
  rw [cell_of_row _ w.heap.size 0 #[v] t (0, 0) (heap_alloc_new w _)]; rfl
theorem areAll_any (w : World) (ao : Option Addr) (n c : Nat) (xs : List Int) (g : FuncId) (caps : Array Value) (p : Int → Bool) (ha : Ints w w.heap.size ao n xs) (hp : Pred g caps w p xs) :
    Calls Try.prog 69 #[.slice ao n c, .func (.func g) #[] caps] w (RetB (xs.all p) w) := by
  have hn := ha.le
  have hb0 : Below w.heap.size w (w.alloc (.cells #[.func (.func g) #[] caps] 99)) := (Below.refl _ _).alloc (Nat.le_refl _) _
  have ha1 : Ints (w.alloc (.cells #[.func (.func g) #[] caps] 99)) (w.alloc (.cells #[.func (.func g) #[] caps] 99)).heap.size ao n xs := (ha.below hb0 (Nat.le_refl _)).up hb0.size
  have HP : Pred 107 #[.pointer (some ⟨w.heap.size, 0, none⟩)] (w.alloc (.cells #[.func (.func g) #[] caps] 99)) (fun x => !p x) xs := by
    refine ⟨fun args W => by kernel_rfl, fun x hx W hW => ?_⟩
    refine areAll1_any W w.heap.size x g caps p ?_ hp.enter (hp.call x hx W (hb0.trans (hW.mono hb0.size)))
    rw [hW.cell (p := ⟨w.heap.size, 0, none⟩) (by simp)]
    exact cell_new _ _ _
  have HH := Lib.hid HP
  have HA := Lib.hid ha1
  clear HP hp ha1
  go_enter Try.func69, Try.ntmps69
  go_wp2_with (go_at_call 106; refine (containsFuncI_any _ _ _ _ _ _ _ _ HA.out HH.out).mono ?_; rintro e w1 ⟨rfl, hb1⟩)
  go_ret
  exact ⟨ret_bool (by rw [any_not]; simp), hb0.trans (hb1.mono hb0.size)⟩
end Go.Proofs.Ytilkgidilhgjeaa
