/-
  Circuits: sorted lists of wires (the reference's way to mark the wires that are used).
-/
import Derived.Test.YtilkgidilhgjeaaCirc7
namespace Go.Proofs.Ytilkgidilhgjeaa
open Go.RowKit
set_option linter.unusedVariables false
set_option linter.unusedSimpArgs false

def putL : List Int → Int → List Int
  | [], v => [v]
  | x :: r, v => if x < v then x :: putL r v else if x = v then x :: r else v :: x :: r
theorem putL_at : ∀ (xs : List Int) (v : Int) (k : Nat), k ≤ xs.length → (∀ (j : Nat) (x : Int), j < k → xs[j]? = some x → x < v) → (∀ x, xs[k]? = some x → ¬ x < v) →
    putL xs v = if xs[k]? = some v then xs else xs.take k ++ v :: xs.drop k
  | [], v, k, hk, _, _ => by simp at hk; subst hk; simp [putL]
  | x :: r, v, 0, _, _, h2 => by
    have := h2 x (by simp)
    simp only [putL, if_neg this, List.getElem?_cons_zero, Option.some.injEq, List.take_zero, List.drop_zero, List.nil_append]
  | x :: r, v, k + 1, hk, h1, h2 => by
    have hx := h1 0 x (by omega) (by simp)
    simp only [putL, if_pos hx, List.getElem?_cons_succ, List.take_succ_cons, List.drop_succ_cons, List.cons_append]
    rw [putL_at r v k (by simp at hk; omega) (fun j y hj hy => h1 (j + 1) y (by omega) (by simpa using hy)) (fun y hy => h2 y (by simpa using hy))]
    split <;> rfl
/-- The places that are marked, from number k on. -/
def tp (k : Int) : List Bool → List Int
  | [] => []
  | b :: r => if b = true then k :: tp (k + 1) r else tp (k + 1) r
theorem tp_gt : ∀ (k : Int) (m : List Bool) (x : Int), x ∈ tp k m → k ≤ x
  | _, [], x, h => by simp [tp] at h
  | k, b :: r, x, h => by
    cases b
    · simp [tp] at h; have := tp_gt (k + 1) r x h; omega
    · simp [tp] at h
      rcases h with rfl | h
      · omega
      · have := tp_gt (k + 1) r x h; omega
theorem putL_front {xs : List Int} {v : Int} (h : ∀ x ∈ xs, v < x) : putL xs v = v :: xs := by
  cases xs with
  | nil => rfl
  | cons x r =>
    have := h x (by simp)
    simp only [putL, if_neg (show ¬ x < v by omega), if_neg (show ¬ x = v by omega)]
theorem putL_tp : ∀ (m : List Bool) (k : Int) (i : Nat), i < m.length → putL (tp k m) (k + i) = tp k (m.set i true)
  | [], _, _, h => by simp at h
  | b :: r, k, 0, _ => by
    cases b
    · simp only [tp, List.set_cons_zero, Int.natCast_zero, Int.add_zero]
      simp only [Bool.false_eq_true, if_false, if_true]
      exact putL_front fun x hx => by have := tp_gt (k + 1) r x hx; omega
    · simp [tp, putL]
  | b :: r, k, i + 1, h => by
    have ih := putL_tp r (k + 1) i (by simpa using h)
    rw [show k + 1 + (i : Int) = k + ((i + 1 : Nat) : Int) from by omega] at ih
    cases b
    · simpa [tp] using ih
    · simp only [tp, List.set_cons_succ, if_true, putL, if_pos (show k < k + ((i + 1 : Nat) : Int) by omega), ih]
theorem tp_has : ∀ (m : List Bool) (k : Int) (i : Nat) (b : Bool), m[i]? = some b → (tp k m).contains (k + i) = b
  | [], _, _, _, h => by simp at h
  | c :: r, k, 0, b, h => by
    simp at h
    subst h
    cases c
    · simp only [tp, Bool.false_eq_true, if_false, Int.natCast_zero, Int.add_zero]
      cases hc : (tp (k + 1) r).contains k with
      | false => rfl
      | true => have := tp_gt (k + 1) r k (by simpa using hc); omega
    · simp [tp]
  | c :: r, k, i + 1, b, h => by
    have ih := tp_has r (k + 1) i b (by simpa using h)
    rw [show k + 1 + (i : Int) = k + ((i + 1 : Nat) : Int) from by omega] at ih
    cases c
    · simpa [tp] using ih
    · simp only [tp, if_true]
      rw [List.contains_cons, ih]
      have : ((k + ((i + 1 : Nat) : Int)) == k) = false := by simp; omega
      rw [this, Bool.false_or]
/-- A list that the call owns back, nothing old has turned. -/
def RetPut (B : Nat) (xs : List Int) (w : World) (e : Ending) (w' : World) : Prop := ∃ ao n cap, e = .returned (.slice ao n cap) ∧ OwnI B w' ao n cap xs ∧ Below w.heap.size w w'
theorem Ints.take {w : World} {B n k : Nat} {ao : Option Addr} {xs : List Int} (h : Ints w B ao n xs) (hk : k ≤ n) : Ints w B ao k (xs.take k) := by
  obtain ⟨h1, h2, h3⟩ := h
  refine ⟨by simp; omega, by omega, ?_⟩
  rcases h3 with h3 | ⟨b, o, e, hb, hc⟩
  · left; simp at h3; simp [h3]
  · right
    refine ⟨b, o, e, hb, fun j u hu => hc j u ?_⟩
    rw [List.map_take, List.getElem?_take] at hu
    split at hu
    · exact hu
    · simp at hu
theorem Ints.drop {w : World} {B n k b o : Nat} {xs : List Int} (h : Ints w B (some ⟨b, o, none⟩) n xs) (hk : k ≤ n) : Ints w B (some ⟨b, o + k, none⟩) (n - k) (xs.drop k) := by
  obtain ⟨h1, h2, h3⟩ := h
  refine ⟨by simp; omega, by omega, ?_⟩
  rcases h3 with h3 | ⟨b', o', e, hb, hc⟩
  · left; simp at h3; simp [h3]
  · right
    simp at e
    obtain ⟨rfl, rfl⟩ := e
    refine ⟨b, o + k, rfl, hb, fun j u hu => ?_⟩
    rw [List.map_drop, List.getElem?_drop] at hu
    have := hc (k + j) u hu
    rwa [← Nat.add_assoc] at this
theorem OwnI.capLe {B : Nat} {w : World} {ao : Option Addr} {n cap : Nat} {xs : List Int} (h : OwnI B w ao n cap xs) : n ≤ cap := by
  obtain ⟨_, _, h⟩ := h
  rcases h with ⟨_, rfl, rfl⟩ | ⟨g, rfl, hr⟩
  · exact Nat.le_refl _
  · rcases hr.2 with ⟨hv, h0⟩ | ⟨g2, cap2, cur, hv, _, _, hn', _⟩
    · omega
    · simp only [Value.slice.injEq] at hv
      obtain ⟨_, _, rfl⟩ := hv
      omega
theorem l1Put_any (w : World) (B : Nat) (ao : Option Addr) (n cap : Nat) (xs : List Int) (v : Int) (h : OwnI B w ao n cap xs) (hB : B ≤ w.heap.size) (hn : n ≤ 1000) :
    Calls Try.prog 83 #[.slice ao n cap, .int .i64 v] w (RetPut B (putL xs v) w) := by
  have hl := Lib.hid h.1
  have ha := h.ints
  go_enter Try.func83, Try.ntmps83
  go_wp2_with fail
  go_loop [5] (fun i => ∃ k : Nat, k ≤ n ∧ i = .int .i64 k ∧ Hid (∀ (j : Nat) (x : Int), j < k → xs[j]? = some x → x < v)) (fun i => n - (intOf i).toNat)
  case atStart => exact ⟨0, Nat.zero_le _, rfl, by intro j x hj; omega⟩
  case round =>
    obtain ⟨k, hk, rfl, hlow⟩ := hrel
    by_cases hlt : k < n
    · obtain ⟨b1, o1, x, rfl, hb1, hx, hc1⟩ := ha.at hlt
      have HX := Lib.hid hx
      clear hx
      by_cases hxv : x < v
      · go_wp2_with fail
        go_round
        case rel => exact ⟨k + 1, by omega, by go_num, by
          intro j y hj hy
          by_cases he : j = k
          · subst he; rw [HX.out] at hy; simp at hy; omega
          · exact hlow.out j y (by omega) hy⟩
        case measure => simp [intOf] <;> omega
      · have HP := Lib.hid (putL_at xs v k (by rw [hl.out]; omega) hlow.out (fun y hy => by rw [HX.out] at hy; simp at hy; omega))
        have hxv1 : decide (x < v) = false := by simp; omega
        by_cases he : x = v
        · subst he
          go_wp2_with fail
          go_ret
          exact ⟨_, _, _, rfl, by rw [HP.out, if_pos HX.out]; exact h, Below.refl _ _⟩
        · have he' : (x == v) = false := by simp [he]
          have hb0 : Below w.heap.size w (w.alloc (.cells #[] 3)) := (Below.refl _ _).alloc (Nat.le_refl _) _
          have hs0 : w.heap.size ≤ (w.alloc (.cells #[] 3)).heap.size := by simp
          have t1 := (ha.take hk).below hb0 (Nat.le_refl _)
          have t2 := ha.drop hk
          have hcap : k < cap := Nat.lt_of_lt_of_le hlt (h.capLe)
          have hcap1 : ¬ cap = k := by omega
          have hcap2 : ¬ k = cap := by omega
          have hcap3 : ¬ cap - k = 0 := by omega
          have hcap4 : 0 < cap - k := by omega
          go_wp2_with (at_builtin; first | (refine wpList_append_is rfl _ _ rfl w.heap.size _ _ _ [] _ _ _ _ _ rfl rfl (OwnI.nil _ _ _) t1 (by omega) hs0 ?_; intro ao1 cap1 w1 hown1 hg1; rw [Nat.zero_add, List.nil_append] at hown1; have hb1 := hb0.grown hg1 hs0 (by simp [rowOf])) | (refine wpList_append_i rfl _ _ rfl w.heap.size _ _ _ _ _ rfl rfl hown1 (by omega) hb1.size ?_; intro ao2 cap2 w2 hown2 hg2; have hb2 := below_append hb1 hown1.2.2 hg2 hb1.size; have t4 := t2.below hb2 (Nat.le_refl _)) | (refine wpList_append_is rfl _ _ rfl w.heap.size _ _ _ _ _ _ _ _ _ rfl rfl hown2 t4 (by omega) hb2.size ?_; intro ao3 cap3 w3 hown3 hg3))
          go_ret
          exact ⟨_, _, _, rfl, by rw [HP.out]; simpa [HX.out, hxv, he] using hown3.up hB, below_append hb2 hown2.2.2 hg3 hb2.size⟩
    · obtain rfl : k = n := by omega
      have hb0 : Below w.heap.size w (w.alloc (.cells #[] 3)) := (Below.refl _ _).alloc (Nat.le_refl _) _
      have hs0 : w.heap.size ≤ (w.alloc (.cells #[] 3)).heap.size := by simp
      have HP := Lib.hid (putL_at xs v k (by rw [hl.out]; exact Nat.le_refl _) hlow.out (fun y hy => by rw [List.getElem?_eq_none (by rw [hl.out]; exact Nat.le_refl _)] at hy; simp at hy))
      have t1 := (ha.take hk).below hb0 (Nat.le_refl _)
      have hcap : k ≤ cap := h.capLe
      go_wp2_with (at_builtin; first | (refine wpList_append_is rfl _ _ rfl w.heap.size _ _ _ [] _ _ _ _ _ rfl rfl (OwnI.nil _ _ _) t1 (by omega) hs0 ?_; intro ao1 cap1 w1 hown1 hg1; rw [Nat.zero_add, List.nil_append] at hown1; have hb1 := hb0.grown hg1 hs0 (by simp [rowOf])) | (refine wpList_append_i rfl _ _ rfl w.heap.size _ _ _ _ _ rfl rfl hown1 (by omega) hb1.size ?_; intro ao2 cap2 w2 hown2 hg2; have hb2 := below_append hb1 hown1.2.2 hg2 hb1.size) | (refine wpList_append_is rfl _ _ rfl w.heap.size _ _ _ _ w.heap.size _ _ _ [] rfl rfl hown2 ⟨rfl, by decide, .inl rfl⟩ (by omega) hb2.size ?_; intro ao3 cap3 w3 hown3 hg3))
      all_goals
        go_ret
        exact ⟨_, _, _, rfl, by rw [HP.out]; rw [List.append_nil] at hown3; simpa [hl.out, List.drop_of_length_le (show xs.length ≤ k by rw [hl.out]; exact Nat.le_refl _)] using hown3.up hB, below_append hb2 hown2.2.2 hg3 hb2.size⟩
end Go.Proofs.Ytilkgidilhgjeaa
