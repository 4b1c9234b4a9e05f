/-
  Draws: networks.
-/
import Derived.Test.YtilkgidilhgjeaaDr5
import Derived.Test.YtilkgidilhgjeaaLy2
import Derived.Test.YtilkgidilhgjeaaNet1
import Derived.Test.YtilkgidilhgjeaaNet2
import Derived.Deep.CutBlock
namespace Go.Proofs.Ytilkgidilhgjeaa
open Go.RowKit
set_option linter.unusedVariables false
set_option linter.unusedSimpArgs false

theorem insertion_len (n : Int) : (insertionF n).1.length ≤ 120 := by
  unfold insertionF
  split
  · rename_i h; exact h.2
  · simp
theorem Flat.take1 {w : World} {B k : Nat} {ao : Option Addr} {xs : List Int} (h : Flat 2 w B ao k xs) (hk : 0 < k) : Flat 2 w B ao (k - 1) (xs.take ((k - 1) * 2)) := by
  obtain ⟨h1, h2, h3⟩ := h
  refine ⟨by rw [List.length_take]; omega, by omega, ?_⟩
  rcases h3 with h3 | ⟨b, o, e, hb, hc⟩
  · left; simp at h3; simp [h3]
  · right
    refine ⟨b, o, e, hb, fun j u hu => hc j u ?_⟩
    rw [List.map_take, List.getElem?_take] at hu
    split at hu
    · exact hu
    · simp at hu
theorem OwnF.capLe {z B : Nat} {e : TypeId} {w : World} {ao : Option Addr} {n cap : Nat} {xs : List Int} (h : OwnF z e B w ao n cap xs) : n ≤ cap := by
  obtain ⟨_, _, h⟩ := h
  rcases h with ⟨_, rfl, rfl⟩ | ⟨g, rfl, hr⟩
  · exact Nat.le_refl _
  · rcases hr.2 with ⟨hv, h0⟩ | ⟨g2, cap2, cur, hv, _, _, hn', _⟩
    · omega
    · simp only [Value.slice.injEq] at hv
      obtain ⟨_, _, rfl⟩ := hv
      omega
/-- No cell of it lies in block b. -/
def Far (b k : Nat) (ao : Option Addr) : Prop := k = 0 ∨ ∀ g o, ao = some ⟨g, o, none⟩ → g ≠ b
theorem Far.less {b k : Nat} {ao : Option Addr} (h : Far b k ao) (hk : 0 < k) : Far b (k - 1) ao := by
  rcases h with h | h
  · omega
  · exact .inr h
theorem OwnF.far {z B b : Nat} {e : TypeId} {w : World} {ao : Option Addr} {n cap : Nat} {xs : List Int} (h : OwnF z e B w ao n cap xs) (hb : b < B) : Far b n ao := by
  rcases Nat.eq_zero_or_pos n with h0 | h0
  · exact .inl h0
  · obtain ⟨g, rfl, h1, _⟩ := h.some h0
    exact .inr fun g' o e => by simp at e; omega
theorem Flat.farG {w w' : World} {B b k : Nat} {ao : Option Addr} {xs : List Int} (h : Flat 2 w B ao k xs) (hf : Far b k ao) (hB : B ≤ w.heap.size) (hg : w.grownBy w' (some b)) : Flat 2 w' B ao k xs := by
  refine ⟨h.1, h.2.1, ?_⟩
  rcases hf with h0 | hf
  · left
    have := h.1
    subst h0
    simp at this
    simp [this]
  · rcases h.2.2 with h3 | ⟨b1, o, e, hb1, hc⟩
    · exact .inl h3
    · refine .inr ⟨b1, o, e, hb1, fun j u hu => (hg.cell_far ⟨b1, o + j, none⟩ (by show b1 < w.heap.size; omega) (fun e2 => hf b1 o e (by simpa using e2))).trans (hc j u hu)⟩
def DrewNet (b m : Nat) (w : World) (e : Ending) (w' : World) : Prop := ∃ (n : Int) (xs : List Int) (ao : Option Addr) (k cap : Nat), e = .returned (.tuple #[.int .i64 n, .slice ao k cap]) ∧ -1000 ≤ n ∧ n ≤ 1000 ∧ Flat 2 w' w'.heap.size ao k xs ∧ Far b k ao ∧ k ≤ 1000 ∧ Cur w' b m ∧ w.grownBy w' (some b)
set_option maxRecDepth 20000 in
set_option maxHeartbeats 4000000 in
theorem network_any (w : World) (b m : Nat) (hc : Cur w b m) (hm : m + 1000 ≤ 1000000000000) :
    Calls Try.prog 66 #[.pointer (some ⟨b, 0, none⟩)] w (DrewNet b (m + 900) w) := by
  have hbl := hc.lt
  go_enter Try.func66, Try.ntmps66
  go_wp2_with fail
  refine (pick_any _ _ _ hc (by omega) 6 (by omega) (by omega)).mono ?_
  rintro e w1 ⟨r, hr0, hr1, rfl, hc1, hg1⟩
  go_wp2_with fail
  refine (pick_any _ _ _ hc1 (by omega) 6 (by omega) (by omega)).mono ?_
  rintro e w2 ⟨q, hq0, hq1, rfl, hc2, hg2⟩
  obtain ⟨rn, rfl⟩ := Int.eq_ofNat_of_zero_le hr0
  have hG2 := gtrans hg1 hg2
  have hz2 := hG2.size
  have hM := soMerge_any (1 + rn) (by omega) (by omega) w2
  rw [show (((1 + rn : Nat)) : Int) = 1 + (rn : Int) from by omega] at hM
  have HM := Lib.hid hM
  have hml : (mergeL (1 + rn)).length ≤ 120 := merge_len ⟨1 + rn, by omega⟩
  have hil := insertion_len (1 + (rn : Int))
  clear hM hc hc1 hg1 hg2
  go_upto_block 0 with fail
  go_cut [5] (fun s5 wx => ∃ (ao : Option Addr) (k cap : Nat) (xs : List Int), s5 = .slice ao k cap ∧ OwnF 2 62 w.heap.size wx ao k cap xs ∧ k ≤ 200 ∧ Cur wx b (m + 200) ∧ w.grownBy wx (some b))
  case first =>
    by_cases q0 : q = 0
    · subst q0
      go_wp2_with fail
      refine HM.out.mono ?_
      rintro e w3 ⟨ao, k, cap, rfl, ho, hb3⟩
      have hk := ho.1
      go_wp2_with fail
      go_meet
      exact ⟨_, _, _, _, rfl, ho.up hz2, by omega, (hc2.below hb3 hc2.lt).more (by omega) (by omega), gbelow hG2 hb3⟩
    by_cases q1 : q = 1
    · subst q1
      go_wp2_with fail
      refine HM.out.mono ?_
      rintro e w3 ⟨ao, k, cap, rfl, ho, hb3⟩
      have hk := ho.1
      go_wp2_with fail
      go_meet
      exact ⟨_, _, _, _, rfl, ho.up hz2, by omega, (hc2.below hb3 hc2.lt).more (by omega) (by omega), gbelow hG2 hb3⟩
    by_cases q2 : q = 2
    · subst q2
      go_wp2_with fail
      refine (spec_InsertionNetwork_any _ _).mono ?_
      rintro e w3 ⟨ao, k, cap, rfl, ho, hb3⟩
      have hk := ho.1
      go_wp2_with fail
      go_meet
      exact ⟨_, _, _, _, rfl, ho.up hz2, by omega, (hc2.below hb3 hc2.lt).more (by omega) (by omega), gbelow hG2 hb3⟩
    · clear HM hml hil
      go_wp2_with fail
      refine (pick_any _ _ _ hc2 (by omega) 9 (by omega) (by omega)).mono ?_
      rintro e w3 ⟨p, hp0, hp1, rfl, hc3, hg3⟩
      have hG3 := gtrans hG2 hg3
      clear hc2 hg3
      go_wp2_with fail
      go_loopw [5, 6] (fun s5 s6 wx => ∃ (j : Nat) (k : Int) (ao : Option Addr) (cap : Nat) (xs : List Int), 0 ≤ k ∧ (j : Int) + k = p ∧ s6 = .int .i64 k ∧ s5 = .slice ao j cap ∧ OwnF 2 62 w.heap.size wx ao j cap xs ∧ Cur wx b (m + 10 + 4 * j) ∧ w.grownBy wx (some b)) (fun _ s6 _ => (intOf s6).toNat)
      case atStart => exact ⟨0, _, _, _, [], hp0, by omega, rfl, rfl, OwnF.nil _ _ _, hc3.more (by omega) (by omega), hG3⟩
      case round =>
        obtain ⟨j, k, ao, cap, xs, hk0, hjk, rfl, rfl, ho, hcu, hg⟩ := hrel
        have HJ := Lib.hid hjk
        have hj8 : j ≤ 8 := by omega
        have hk8 : k ≤ 8 := by omega
        have hzr := hg.size
        clear hjk
        by_cases hk : 0 < k
        · have hk' : decide (0 < k) = true := by simpa using hk
          by_cases hn : 1 < 1 + (rn : Int)
          · have hn0 : 0 < (rn : Int) := by omega
            go_wp2_with fail
            refine (pick_any _ _ _ hcu (by omega) _ (by omega) (by omega)).mono ?_
            rintro e w4 ⟨i, hi0, hi1, rfl, hc4, hg4⟩
            have hi2 : i ≤ 5 := by omega
            have hpk : 1 ≤ (rn : Int) - i := by omega
            go_wp2_with fail
            refine (pick_any _ _ _ hc4 (by omega) _ (by omega) (by omega)).mono ?_
            rintro e w5 ⟨i5, hi50, hi51, rfl, hc5, hg5⟩
            have ho5 := (ho.other hg4 (fun p l hp hl => by have := (ho.rowLt p hp).1; simp at hl; omega)).other hg5 (fun p l hp hl => by have := (ho.rowLt p hp).1; simp at hl; omega)
            have hG5 := gtrans (gtrans hg hg4) hg5
            have hrow : ∀ p, rowOf ao cap = some p → w.heap.size ≤ p := fun p hp => (ho.rowLt p hp).1
            go_wp2_with (at_builtin; refine wpList_append_Step rfl _ _ rfl w.heap.size _ _ _ _ _ _ rfl rfl ho5 (by omega) hG5.size ?_; intro ao' cap' w9 hown9 hg9)
            have hc9 := hc5.grown hg9 (fun p hp => by have := hrow p hp; omega)
            have hG9 := gown hG5 hg9 hrow
            go_roundw
            case rel => exact ⟨j + 1, k - 1, _, _, _, by omega, by have := HJ.out; omega, rfl, rfl, hown9, hc9.more (by omega) (by omega), hG9⟩
            case measure => simp [intOf] <;> omega
          · have hn1 : decide (1 < 1 + (rn : Int)) = false := by simpa using hn
            go_wp2_with fail
            go_meet
            exact ⟨_, _, _, _, rfl, ho, by omega, hcu.more (by omega) (by omega), hg⟩
        · have hk' : decide (0 < k) = false := by simpa using hk
          go_wp2_with fail
          go_meet
          exact ⟨_, _, _, _, rfl, ho, by omega, hcu.more (by omega) (by omega), hg⟩
  case rest =>
    obtain ⟨ao, k, cap, xs, rfl, ho, hk, hcu, hg⟩ := hcut
    clear HM hml hil hc2 hG2
    have hzr := hg.size
    have hrow : ∀ p, rowOf ao cap = some p → w.heap.size ≤ p := fun p hp => (ho.rowLt p hp).1
    go_wp2_with fail
    refine (pick_any _ _ _ hcu (by omega) 16 (by omega) (by omega)).mono ?_
    rintro e w3 ⟨q', hq'0, hq'1, rfl, hc3, hg3⟩
    have ho3 := ho.other hg3 (fun p l hp hl => by have := hrow p hp; simp at hl; omega)
    have hG3 := gtrans hg hg3
    clear ho hcu hg hg3
    by_cases q0 : q' = 0
    · subst q0
      by_cases hk0 : 0 < k
      · obtain ⟨g, rfl, _, _⟩ := ho3.some hk0
        have hcap := ho3.capLe
        have hcap2 : (k : Int) - 1 ≤ (cap : Int) := by omega
        have hk1 : (0 : Int) ≤ (k : Int) - 1 := by omega
        have hk2 : ((k : Int) - 1).toNat = k - 1 := by omega
        have HK2 := Lib.hid hk2
        clear hk2
        go_wp2_with fail
        go_ret2
        exact ⟨_, _, _, _, _, rfl, by omega, by omega, ho3.flat.take1 hk0, Far.less (ho3.far hbl) hk0, by omega, hc3.more (by omega) (by omega), hG3⟩
      · go_wp2_with fail
        go_ret2
        exact ⟨_, _, _, _, _, rfl, by omega, by omega, ho3.flat, ho3.far hbl, by omega, hc3.more (by omega) (by omega), hG3⟩
    by_cases q1 : q' = 1
    · subst q1
      by_cases hk0 : 0 < k
      · go_wp2_with fail
        refine (pick_any _ _ _ hc3 (by omega) k (by omega) (by omega)).mono ?_
        rintro e w4 ⟨i, hi0, hi1, rfl, hc4, hg4⟩
        have ho4 := ho3.other hg4 (fun p l hp hl => by have := hrow p hp; simp at hl; omega)
        have hG4 := gtrans hG3 hg4
        obtain ⟨i, rfl⟩ := Int.eq_ofNat_of_zero_le hi0
        have hik : i < k := by omega
        obtain ⟨b1, o1, x, y, rfl, _, _, c0, c1⟩ := ho4.flat.step hik
        go_wp2_with (at_builtin; refine wpList_append_Step rfl _ _ rfl w.heap.size _ _ _ _ _ _ rfl rfl ho4 (by omega) hG4.size ?_; intro ao' cap' w9 hown9 hg9)
        go_ret2
        exact ⟨_, _, _, _, _, rfl, by omega, by omega, hown9.flat, hown9.far hbl, by omega, (hc4.grown hg9 (fun p hp => by have := hrow p hp; omega)).more (by omega) (by omega), gown hG4 hg9 hrow⟩
      · go_wp2_with fail
        go_ret2
        exact ⟨_, _, _, _, _, rfl, by omega, by omega, ho3.flat, ho3.far hbl, by omega, hc3.more (by omega) (by omega), hG3⟩
    by_cases q2 : q' = 2
    · subst q2
      go_wp2_with fail
      refine (pick_any _ _ _ hc3 (by omega) _ (by omega) (by omega)).mono ?_
      rintro e w4 ⟨i, hi0, hi1, rfl, hc4, hg4⟩
      go_wp2_with fail
      refine (pick_any _ _ _ hc4 (by omega) _ (by omega) (by omega)).mono ?_
      rintro e w5 ⟨j, hj0, hj1, rfl, hc5, hg5⟩
      have ho5 := (ho3.other hg4 (fun p l hp hl => by have := hrow p hp; simp at hl; omega)).other hg5 (fun p l hp hl => by have := hrow p hp; simp at hl; omega)
      have hG5 := gtrans (gtrans hG3 hg4) hg5
      go_wp2_with (at_builtin; refine wpList_append_Step rfl _ _ rfl w.heap.size _ _ _ _ _ _ rfl rfl ho5 (by omega) hG5.size ?_; intro ao' cap' w9 hown9 hg9)
      go_ret2
      exact ⟨_, _, _, _, _, rfl, by omega, by omega, hown9.flat, hown9.far hbl, by omega, (hc5.grown hg9 (fun p hp => by have := hrow p hp; omega)).more (by omega) (by omega), gown hG5 hg9 hrow⟩
    by_cases q3 : q' = 3
    · subst q3
      go_wp2_with fail
      refine (among_new _ _ _ hc3 (by omega) [0, 12, 13, 1 + (rn : Int)] (by simp) (by simp)).mono ?_
      rintro e w4 ⟨s, hs, rfl, hc4, hg4⟩
      have hsb : 0 ≤ s ∧ s ≤ 13 := by simp at hs; omega
      clear hs
      have ho4 := ho3.other hg4 (fun p l hp hl => by have := hrow p hp; simp at hl; omega)
      have hG4 := gtrans hG3 hg4
      go_wp2_with fail
      go_ret2
      exact ⟨_, _, _, _, _, rfl, by omega, by omega, ho4.flat, ho4.far hbl, by omega, hc4.more (by omega) (by omega), hG4⟩
    by_cases q4 : q' = 4
    · subst q4
      by_cases hn : 1 < 1 + (rn : Int)
      · have hn1 : decide (1 < 1 + (rn : Int)) = true := by simpa using hn
        have hn0 : 0 < (rn : Int) := by omega
        go_wp2_with fail
        refine (one_any _ _ _ hc3 (by omega) 3 (by omega) (by omega)).mono ?_
        rintro e w4 ⟨v, rfl, hc4, hg4⟩
        have ho4 := ho3.other hg4 (fun p l hp hl => by have := hrow p hp; simp at hl; omega)
        have hG4 := gtrans hG3 hg4
        cases v
        · go_wp2_with fail
          go_ret2
          exact ⟨_, _, _, _, _, rfl, by omega, by omega, ho4.flat, ho4.far hbl, by omega, hc4.more (by omega) (by omega), hG4⟩
        · go_wp2_with fail
          refine (pick_any _ _ _ hc4 (by omega) 2 (by omega) (by omega)).mono ?_
          rintro e w5 ⟨p, hp0, hp1, rfl, hc5, hg5⟩
          have ho5 := ho4.other hg5 (fun p l hp hl => by have := hrow p hp; simp at hl; omega)
          have hG5 := gtrans hG4 hg5
          have hc6 := hc5.more (m' := m + 300) (by omega) (by omega)
          clear ho3 ho4 hG3 hG4 hg4 hg5 hc3 hc4 hc5
          go_wp2_with fail
          go_loopw [5] (fun s5 wx => ∃ (j : Nat) (ao : Option Addr) (cap : Nat) (xs : List Int), j ≤ 200 ∧ s5 = .slice ao j cap ∧ OwnF 2 62 w.heap.size wx ao j cap xs ∧ Cur wx b (m + 300) ∧ w.grownBy wx (some b)) (fun s5 _ => 200 - (match s5 with | .slice _ j _ => j | _ => 0))
          case atStart => exact ⟨_, _, _, _, hk, rfl, ho5, hc6, hG5⟩
          case round =>
            obtain ⟨j, ao2, cap2, xs2, hj, rfl, ho, hcu, hg⟩ := hrel
            have hrow2 : ∀ p, rowOf ao2 cap2 = some p → w.heap.size ≤ p := fun p hp => (ho.rowLt p hp).1
            by_cases hjk : (j : Int) < 60 + p
            · go_wp2_with (at_builtin; refine wpList_append_Step rfl _ _ rfl w.heap.size _ _ _ _ _ _ rfl rfl ho (by omega) hg.size ?_; intro ao' cap' w9 hown9 hg9)
              have hc9 := hcu.grown hg9 (fun p hp => by have := hrow2 p hp; omega)
              have hG9 := gown hg hg9 hrow2
              go_roundw
              case rel => exact ⟨j + 1, _, _, _, by omega, rfl, hown9, hc9, hG9⟩
              case measure => simp <;> omega
            · go_wp2_with fail
              go_ret2
              exact ⟨_, _, _, _, _, rfl, by omega, by omega, ho.flat, ho.far hbl, by omega, hcu.more (by omega) (by omega), hg⟩
      · have hn1 : decide (1 < 1 + (rn : Int)) = false := by simpa using hn
        go_wp2_with fail
        go_ret2
        exact ⟨_, _, _, _, _, rfl, by omega, by omega, ho3.flat, ho3.far hbl, by omega, hc3.more (by omega) (by omega), hG3⟩
    · go_wp2_with fail
      go_ret2
      exact ⟨_, _, _, _, _, rfl, by omega, by omega, ho3.flat, ho3.far hbl, by omega, hc3.more (by omega) (by omega), hG3⟩
/-- A network is drawn. -/
def RetNet (w : World) (e : Ending) (w' : World) : Prop := ∃ (n : Int) (xs : List Int) (ao : Option Addr) (k cap : Nat), e = .returned (.tuple #[.int .i64 n, .slice ao k cap]) ∧ Flat 2 w' w'.heap.size ao k xs ∧ k ≤ 1000 ∧ Below w.heap.size w w'
theorem DrawIsNetwork_any (w : World) (ao : Option Addr) (n cap : Nat) (bs : List Int) (h : Bytes w w.heap.size ao n bs) :
    Calls Try.prog 80 #[.slice ao n cap] w (RetNet w) := by
  obtain ⟨W, hW, hc, hb, hlt⟩ := cur_new w ao n cap bs h
  have HW := Lib.hid hW
  clear hW
  go_enter Try.func80, Try.ntmps80
  go_wp2_with (rw [← HW.out])
  refine (network_any _ _ _ hc (by omega)).mono ?_
  rintro e w2 ⟨n, xs, bo, k, cap2, rfl, hn0, hn1, hf, hfar, hk, hc2, hg⟩
  go_wp2_with fail
  go_ret2
  exact ⟨_, _, _, _, _, rfl, hf, hk, below_cur hb hg⟩
theorem DrawLayersOf_any (w : World) (ao : Option Addr) (n cap : Nat) (bs : List Int) (h : Bytes w w.heap.size ao n bs) :
    Calls Try.prog 33 #[.slice ao n cap] w (RetNet w) := by
  go_enter Try.func33, Try.ntmps33
  go_wp2_with fail
  refine (DrawIsNetwork_any _ _ _ _ _ h).mono ?_
  rintro e w2 ⟨n, xs, bo, k, cap2, rfl, hf, hk, hb⟩
  go_wp2_with fail
  go_ret2
  exact ⟨_, _, _, _, _, rfl, hf, hk, hb⟩
def RetNetX (w : World) (e : Ending) (w' : World) : Prop := ∃ (n : Int) (xs : List Int) (ao : Option Addr) (k cap : Nat) (ys : List Int) (bo : Option Addr) (l cap2 : Nat), e = .returned (.tuple #[.int .i64 n, .slice ao k cap, .slice bo l cap2]) ∧ Flat 2 w' w'.heap.size ao k xs ∧ k ≤ 1000 ∧ Ints w' w'.heap.size bo l ys ∧ l ≤ 2000 ∧ Below w.heap.size w w'
set_option maxHeartbeats 2000000 in
set_option maxRecDepth 20000 in
theorem DrawSortWith_any (w : World) (ao : Option Addr) (n cap : Nat) (bs : List Int) (h : Bytes w w.heap.size ao n bs) :
    Calls Try.prog 23 #[.slice ao n cap] w (RetNetX w) := by
  obtain ⟨W, hW, hc, hb, hlt⟩ := cur_new w ao n cap bs h
  have HW := Lib.hid hW
  clear hW
  go_enter Try.func23, Try.ntmps23
  go_wp2_with (rw [← HW.out])
  refine (network_any _ _ _ hc (by omega)).mono ?_
  rintro e w2 ⟨n, xs, bo, k, cap2, rfl, hn0, hn1, hf, hfar, hk, hc2, hg⟩
  have hbW := below_cur hb hg
  have hz2 := hbW.size
  have hcl := hc2.lt
  have HL := Lib.hid hf
  go_wp2_with fail
  go_loopw [8, 9] (fun s8 s9 wx => ∃ (j : Nat) (ao : Option Addr) (cap : Nat) (ys : List Int), j ≤ 1000 ∧ s9 = .int .i64 j ∧ s8 = .slice ao j cap ∧ OwnI w2.heap.size wx ao j cap ys ∧ Cur wx w.heap.size (900 + 2 * j) ∧ w2.grownBy wx (some w.heap.size)) (fun _ s9 _ => (n - intOf s9).toNat)
  case atStart => exact ⟨0, _, _, [], by omega, rfl, rfl, OwnI.nil _ _ _, hc2.more (by omega) (by omega), World.grownBy.refl _ _⟩
  case round =>
    obtain ⟨j, ao2, cap3, ys, hj, rfl, rfl, ho, hcu, hg2⟩ := hrel
    have hrow : ∀ p, rowOf ao2 cap3 = some p → w2.heap.size ≤ p := fun p hp => (ho.rowLt p hp).1
    have hzr := hg2.size
    by_cases hjn : (j : Int) < n
    · go_wp2_with fail
      refine (pick_any _ _ _ hcu (by omega) 12 (by omega) (by omega)).mono ?_
      rintro e w4 ⟨i, hi0, hi1, rfl, hc4, hg4⟩
      have ho4 := ho.other hg4 (fun p l hp hl => by have := hrow p hp; simp at hl; omega)
      have hG4 := gtrans hg2 hg4
      go_wp2_with (at_builtin; refine wpList_append_i rfl _ _ rfl w2.heap.size _ _ _ _ _ rfl (by first | rfl | (simp; rfl)) ho4 (by omega) hG4.size ?_; intro ao' cap' w9 hown9 hg9)
      have hc9 := hc4.grown hg9 (fun p hp => by have := hrow p hp; omega)
      have hG9 := gown hG4 hg9 hrow
      go_roundw
      case rel => exact ⟨j + 1, _, _, _, by omega, by go_num, rfl, hown9, hc9.more (by omega) (by omega), hG9⟩
      case measure => simp [intOf] <;> omega
    · go_wp2_with fail
      refine (pick_any _ _ _ hcu (by omega) 24 (by omega) (by omega)).mono ?_
      rintro e w4 ⟨i, hi0, hi1, rfl, hc4, hg4⟩
      have ho4 := ho.other hg4 (fun p l hp hl => by have := hrow p hp; simp at hl; omega)
      have hG4 := gtrans hg2 hg4
      have hz4 := hG4.size
      by_cases i0 : i = 0
      · subst i0
        go_wp2_with (at_builtin; refine wpList_append_i rfl _ _ rfl w2.heap.size _ _ _ _ _ rfl (by first | rfl | (simp; rfl)) ho4 (by omega) hG4.size ?_; intro ao' cap' w9 hown9 hg9)
        go_ret3
        have hG9 := gown hG4 hg9 hrow
        exact ⟨_, _, _, _, _, _, _, _, _, rfl, (HL.out.farG hfar (Nat.le_refl _) hG9).up hG9.size, hk, hown9.ints, by omega, below_cur hb (gtrans hg hG9)⟩
      by_cases i1 : i = 1
      · subst i1
        by_cases hj0 : 0 < j
        · go_wp2_with fail
          refine (among_new _ _ _ hc4 (by omega) [1000000, -1000000, 1000001] (by simp) (by simp)).mono ?_
          rintro e w5 ⟨s, hs, rfl, hc5, hg5⟩
          clear hs
          have ho5 := ho4.other hg5 (fun p l hp hl => by have := hrow p hp; simp at hl; omega)
          have hG5 := gtrans hG4 hg5
          obtain ⟨g, rfl, hgB, hgl, _⟩ := ho5.2.2.some hj0
          obtain ⟨ho6, hg6, hf6⟩ := ho5.set hj0 s
          obtain ⟨x0, _, c0⟩ := ho5.ints.at' hj0
          simp only [Nat.zero_add] at c0
          have hG6 := gown hG5 hg6 (fun p hp => (ho5.rowLt p hp).1)
          have HO6 := Lib.hid ho6
          have HG6 := Lib.hid hG6
          clear ho6 hg6 hG6
          go_wp2_with fail
          go_ret3
          exact ⟨_, _, _, _, _, _, _, _, _, rfl, (HL.out.farG hfar (Nat.le_refl _) HG6.out).up HG6.out.size, hk, HO6.out.ints, by omega, below_cur hb (gtrans hg HG6.out)⟩
        · go_wp2_with fail
          go_ret3
          exact ⟨_, _, _, _, _, _, _, _, _, rfl, (HL.out.farG hfar (Nat.le_refl _) hG4).up hz4, hk, ho4.ints, by omega, below_cur hb (gtrans hg hG4)⟩
      · go_wp2_with fail
        go_ret3
        exact ⟨_, _, _, _, _, _, _, _, _, rfl, (HL.out.farG hfar (Nat.le_refl _) hG4).up hz4, hk, ho4.ints, by omega, below_cur hb (gtrans hg hG4)⟩
end Go.Proofs.Ytilkgidilhgjeaa
