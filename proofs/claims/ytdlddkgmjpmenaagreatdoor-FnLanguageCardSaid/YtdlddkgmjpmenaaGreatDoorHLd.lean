/-
  Draws of programs: what a drawn program is; a program with as many lines as there can be.
-/
import Derived.Test.YtdlddkgmjpmenaaGreatDoorHCu
import Derived.Test.YtdlddkgmjpmenaaGreatDoorQTr1
import Derived.Test.YtdlddkgmjpmenaaGreatDoorHMk
import Derived.Deep.RegionHeld3
import Derived.Deep.DeepCutAuto
import Derived.Deep.CutBlock
import Derived.Deep.RegionLaw
import Derived.Test.YtdlddkgmjpmenaaGreatDoorHLs
namespace Go.Proofs.YtdlddkgmjpmenaaGreatDoor
open Go.RowKit
set_option linter.unusedVariables false
set_option linter.unusedSimpArgs false

theorem ownC_capLe {z B : Nat} {e : TypeId} {w : World} {ao : Option Addr} {n cap : Nat} {cs : List Value} (h : OwnC e z B w ao n cap cs) : n ≤ cap := by
  rcases h with ⟨_, rfl, rfl⟩ | ⟨g, rfl, hr⟩
  · exact Nat.le_refl _
  · rcases hr.2 with ⟨hv, h0⟩ | ⟨g2, cap2, cur, hv, _, _, hn', _⟩
    · omega
    · simp only [Value.slice.injEq] at hv
      obtain ⟨_, _, rfl⟩ := hv
      omega
/-- The names, operations and parts of drawn lines are short. -/
def okD (ls : List Ln) : Prop := ∀ x ∈ ls, x.name.size ≤ 100 ∧ x.op.size ≤ 100 ∧ x.parts.length ≤ 100
theorem okD_nil : okD [] := fun x h => by simp at h
theorem okD_snoc {ls : List Ln} {l : Ln} (h : okD ls) (h1 : l.name.size ≤ 100) (h2 : l.op.size ≤ 100) (h3 : l.parts.length ≤ 100) : okD (ls ++ [l]) := by
  intro x hx
  rw [List.mem_append] at hx
  rcases hx with hx | hx
  · exact h x hx
  · simp at hx; subst hx; exact ⟨h1, h2, h3⟩
theorem okD_okS {ls : List Ln} (h : okD ls) : okS ls := fun x hx => by
  have := h x hx
  omega
/-- Only a block below the base has turned. -/
theorem TT.farO {B n cap : Nat} {w w' : World} {ao : Option Addr} {hs : List (Option Addr × Nat)} {ls : List Ln} {row : Option Nat} (h : TT B w ao n cap hs ls) (hg : w.grownBy w' row) (hB : ∀ g, row = some g → g < B) : TT B w' ao n cap hs ls :=
  ⟨h.len, h.le, h.hlen, h.row.kept hg (fun q e hc he => by
    have h1 := hB q he
    have := h.row.rowLt q (by subst e; simp [rowOf, hc])
    omega), fun k l x a b => (h.parts k l x a b).other hg (fun p q hp hq => by have := hB q hq; have := ((h.parts k l x a b).rowLt p hp).1; omega), h.apart⟩
theorem TT.far {B n cap b : Nat} {w w' : World} {ao : Option Addr} {hs : List (Option Addr × Nat)} {ls : List Ln} (h : TT B w ao n cap hs ls) (hg : w.grownBy w' (some b)) (hB : b < B) : TT B w' ao n cap hs ls :=
  h.farO hg fun g e => by simp at e; omega
theorem TT.rowsS {B n cap S : Nat} {w : World} {ao : Option Addr} {hs : List (Option Addr × Nat)} {ls : List Ln} (h : TT B w ao n cap hs ls) (hS : w.heap.size ≤ S) : ∀ (i : Nat) (y : Option Addr × Nat) (p : Nat), hs[i]? = some y → rowOf y.1 y.2 = some p → p < S :=
  fun i y p hy hp => Nat.lt_of_lt_of_le (h.rows i y p hy hp) hS
/-- A program is drawn. -/
def DrewP (b m : Nat) (w : World) (e : Ending) (w' : World) : Prop := ∃ (ls : List Ln) (ao : Option Addr) (n cap : Nat) (hs : List (Option Addr × Nat)), e = .returned (.slice ao n cap) ∧ TT w.heap.size w' ao n cap hs ls ∧ n ≤ 40 ∧ okD ls ∧ Cur w' b m ∧ w.grownBy w' (some b)
theorem line_made (w : World) (l : Ln) (hp : l.parts = []) : TT w.heap.size (w.alloc (.cells #[.int .i64 l.kind, .string l.name, .string l.op, .slice none 0 0, .int .i64 l.party, .int .i64 l.width, .int .i64 l.value] 47)) (some ⟨w.heap.size, 0, none⟩) 1 1 [(none, 0)] [l] := by
  refine ⟨rfl, by decide, rfl, ?_, fun k y z a b => ?_, fun i j y z a b hij => ?_⟩
  · refine .inr ⟨_, rfl, rfl, .inr ⟨w.heap.size, 1, _, rfl, Nat.le_refl _, heap_alloc_new w _, Nat.le_refl _, by decide, rfl, ?_⟩⟩
    simp [linesCells, lineCells, hp]
  · have hk : k = 0 := by
      have := (List.getElem?_eq_some_iff.1 a).1
      simpa using this
    subst hk
    simp at a b
    subst a
    subst b
    rw [hp]
    exact OwnSt.nil _ _ _
  · have h1 := (List.getElem?_eq_some_iff.1 a).1
    have h2 := (List.getElem?_eq_some_iff.1 b).1
    simp at h1 h2
    omega
end Go.Proofs.YtdlddkgmjpmenaaGreatDoor
/-
  Draws of programs: programs at the limits.
-/
namespace Go.Proofs.YtdlddkgmjpmenaaGreatDoor
open Go.RowKit
set_option linter.unusedVariables false
set_option linter.unusedSimpArgs false

theorem str_conv2 (w : World) (x y : Int) : (convert 28 9 (.slice (some ⟨w.heap.size, 0, none⟩) 2 2)).run Tryz.prog (w.alloc (.cells #[.int .u8 x, .int .u8 y] 5)) = .ok (.string (strOfNums [x, y])) (w.alloc (.cells #[.int .u8 x, .int .u8 y] 5)) := by
  refine str_conv _ _ 0 2 2 [x, y] rfl fun i hi => ?_
  rw [Nat.zero_add, cell_of_row _ _ _ _ _ (0, 0) (heap_alloc_new w _)]
  match i, hi with
  | 0, _ => rfl
  | 1, _ => rfl
set_option maxHeartbeats 4000000 in
set_option maxRecDepth 20000 in
theorem atLimits_any (w : World) (b m : Nat) (hc : Cur w b m) (hm : m + 1000 ≤ 1000000000000) :
    Calls Tryz.prog 76 #[.pointer (some ⟨b, 0, none⟩)] w (DrewP b (m + 100) w) := by
  have hbl := hc.lt
  obtain ⟨W, hW⟩ : ∃ W, W = w.alloc (.cells #[.int .i64 1, .string ⟨#[120]⟩, .string ⟨#[]⟩, .slice none 0 0, .int .i64 0, .int .i64 3, .int .i64 0] 47) := ⟨_, rfl⟩
  have hbW : Below w.heap.size w W := by rw [hW]; exact (Below.refl _ _).alloc (Nat.le_refl _) _
  have hT : TT w.heap.size W (some ⟨w.heap.size, 0, none⟩) 1 1 [(none, 0)] [⟨1, ⟨#[120]⟩, ⟨#[]⟩, [], 0, 3, 0⟩] := by rw [hW]; exact line_made w ⟨1, ⟨#[120]⟩, ⟨#[]⟩, [], 0, 3, 0⟩ rfl
  have hO : okD [⟨1, ⟨#[120]⟩, ⟨#[]⟩, [], 0, 3, 0⟩] := fun x hx => by simp at hx; subst hx; decide
  have HO := Lib.hid hO
  have HW := Lib.hid hW
  have hzW : W.heap.size = w.heap.size + 1 := by rw [hW]; simp
  have hcW := hc.below hbW hbl
  have hgW : w.grownBy W (some b) := g_of_below hbW _
  clear hW hO hc
  go_enter Tryz.func76, Tryz.ntmps76
  go_wp2_with (rw [← HW.out])
  refine (pick_any _ _ _ hcW (by omega) 3 (by omega) (by omega)).mono ?_
  rintro e w1 ⟨r, hr0, hr1, rfl, hc1, hg1⟩
  have hT1 := hT.far hg1 hbl
  have hG1 := gtrans hgW hg1
  have hz1 := hg1.size
  clear hT hcW hgW
  by_cases q0 : r = 0
  · subst q0
    go_wp2_with fail
    refine (pick_any _ _ _ hc1 (by omega) 2 (by omega) (by omega)).mono ?_
    rintro e w2 ⟨p, hp0, hp1, rfl, hc2, hg2⟩
    have hT2 := hT1.far hg2 hbl
    have hG2 := gtrans hG1 hg2
    have hc3 := hc2.more (m' := m + 50) (by omega) (by omega)
    go_wp2_with fail
    go_loopw [3] (fun s wx => ∃ (ls : List Ln) (ao : Option Addr) (n cap : Nat) (hs : List (Option Addr × Nat)), s = .slice ao n cap ∧ n ≤ 31 ∧ TT w.heap.size wx ao n cap hs ls ∧ Hid (okD ls) ∧ Cur wx b (m + 50) ∧ w.grownBy wx (some b)) (fun s _ => 31 - (match s with | .slice _ j _ => j | _ => 0))
    case atStart => exact ⟨_, _, _, _, _, rfl, by decide, hT2, HO, hc3, hG2⟩
    case round =>
      obtain ⟨ls, ao, n, cap, hs, rfl, hn, hT, hok, hcu, hg⟩ := hrel
      have hzr := hg.size
      by_cases hlt : (n : Int) < 30 + p
      · have hcv := str_conv2 wr (97 + (n : Int) / 10) (97 + (n : Int) % 10)
        obtain ⟨W4, hW4⟩ : ∃ W4, W4 = wr.alloc (.cells #[.int .u8 (97 + (n : Int) / 10), .int .u8 (97 + (n : Int) % 10)] 5) := ⟨_, rfl⟩
        have hb4 : Below wr.heap.size wr W4 := by rw [hW4]; exact (Below.refl _ _).alloc (Nat.le_refl _) _
        rw [← hW4] at hcv
        have HW4 := Lib.hid hW4
        clear hW4
        obtain ⟨q, hq⟩ : ∃ q, q = strOfNums [97 + (n : Int) / 10, 97 + (n : Int) % 10] := ⟨_, rfl⟩
        have hq1 : q.size ≤ 2 := by rw [hq]; exact Nat.le_refl 2
        rw [← hq] at hcv
        clear hq
        have hT4 := hT.below hb4 (Nat.le_refl _)
        have hc4 := hcu.below hb4 hcu.lt
        have hg4 := gbelow hg hb4
        have hz4 := hg4.size
        have hrow : ∀ p, rowOf ao cap = some p → w.heap.size ≤ p := fun p hp => (hT4.row.rowLt p hp).1
        go_wp2_with (first | rw [← HW4.out] | (at_builtin; refine wpList_append_l rfl _ _ rfl w.heap.size W4.heap.size _ _ _ hs ls ⟨2, ByteArray.mk #[107] ++ q, ⟨#[]⟩, [], 0, 1, 0⟩ none 0 rfl (by first | rfl | (simp; rfl)) hT4 (OwnSt.nil _ _ _) (hT4.rowsS (Nat.le_refl _)) hz4 (by omega) hz4 ?_; intro ao' cap' w9 hT9 hg9))
        have hc9 := hc4.grown hg9 (fun p hp => by have := hrow p hp; omega)
        have hG9 := gown hg4 hg9 hrow
        have hok9 : Hid (okD (ls ++ [⟨2, ByteArray.mk #[107] ++ q, ⟨#[]⟩, [], 0, 1, 0⟩])) := okD_snoc hok.out (by show (ByteArray.mk #[107] ++ q).size ≤ 100; rw [ByteArray.size_append]; have : (ByteArray.mk #[107]).size = 1 := rfl; omega) (by show (ByteArray.mk #[]).size ≤ 100; decide) (by simp)
        go_roundw
        case rel => exact ⟨_, _, _, _, _, rfl, by omega, hT9, hok9, hc9, hG9⟩
        case measure => simp <;> omega
      · go_wp2_with fail
        go_ret
        exact ⟨_, _, _, _, _, rfl, hT, by omega, hok.out, hcu.more (by omega) (by omega), hg⟩
  by_cases q1 : r = 1
  · subst q1
    go_wp2_with fail
    refine (pick_any _ _ _ hc1 (by omega) 2 (by omega) (by omega)).mono ?_
    rintro e w2 ⟨p, hp0, hp1, rfl, hc2, hg2⟩
    have hT2 := hT1.far hg2 hbl
    have hG2 := gtrans hG1 hg2
    have hc3 := hc2.more (m' := m + 50) (by omega) (by omega)
    go_wp2_with fail
    go_loopw [3] (fun s wx => ∃ (ls : List Ln) (ao : Option Addr) (n cap : Nat) (hs : List (Option Addr × Nat)), s = .slice ao n cap ∧ n ≤ 31 ∧ TT w.heap.size wx ao n cap hs ls ∧ Hid (okD ls) ∧ Cur wx b (m + 50) ∧ w.grownBy wx (some b)) (fun s _ => 31 - (match s with | .slice _ j _ => j | _ => 0))
    case atStart => exact ⟨_, _, _, _, _, rfl, by decide, hT2, HO, hc3, hG2⟩
    case round =>
      obtain ⟨ls, ao, n, cap, hs, rfl, hn, hT, hok, hcu, hg⟩ := hrel
      have hzr := hg.size
      by_cases hlt : (n : Int) < 11 + p
      · obtain ⟨W4, hW4⟩ : ∃ W4, W4 = wr.alloc (.cells #[.string ⟨#[120]⟩] 9) := ⟨_, rfl⟩
        have hb4 : Below wr.heap.size wr W4 := by rw [hW4]; exact (Below.refl _ _).alloc (Nat.le_refl _) _
        have hx4 : OwnSt wr.heap.size W4 (some ⟨wr.heap.size, 0, none⟩) 1 1 [⟨#[120]⟩] := by rw [hW4]; exact ⟨rfl, by decide, .inr ⟨_, rfl, rfl, .inr ⟨wr.heap.size, 1, _, rfl, Nat.le_refl _, heap_alloc_new wr _, Nat.le_refl _, by decide, rfl, rfl⟩⟩⟩
        have HW4 := Lib.hid hW4
        clear hW4
        have hT4 := hT.below hb4 (Nat.le_refl _)
        have hc4 := hcu.below hb4 hcu.lt
        have hg4 := gbelow hg hb4
        have hz4 := hg4.size
        have hrow : ∀ p, rowOf ao cap = some p → w.heap.size ≤ p := fun p hp => (hT4.row.rowLt p hp).1
        go_wp2_with (first | rw [← HW4.out] | (at_builtin; refine wpList_append_l rfl _ _ rfl w.heap.size wr.heap.size _ _ _ hs ls ⟨6, ⟨#[]⟩, ⟨#[]⟩, [⟨#[120]⟩], 0, 0, 0⟩ (some ⟨wr.heap.size, 0, none⟩) 1 rfl (by first | rfl | (simp; rfl)) hT4 hx4 (hT.rowsS (Nat.le_refl _)) hzr (by omega) hz4 ?_; intro ao' cap' w9 hT9 hg9))
        have hc9 := hc4.grown hg9 (fun p hp => by have := hrow p hp; omega)
        have hG9 := gown hg4 hg9 hrow
        have hok9 : Hid (okD (ls ++ [⟨6, ⟨#[]⟩, ⟨#[]⟩, [⟨#[120]⟩], 0, 0, 0⟩])) := okD_snoc hok.out (by decide) (by decide) (by decide)
        go_roundw
        case rel => exact ⟨_, _, _, _, _, rfl, by omega, hT9, hok9, hc9, hG9⟩
        case measure => simp <;> omega
      · go_wp2_with fail
        go_ret
        exact ⟨_, _, _, _, _, rfl, hT, by omega, hok.out, hcu.more (by omega) (by omega), hg⟩
  · go_wp2_with fail
    refine (pick_any _ _ _ hc1 (by omega) 2 (by omega) (by omega)).mono ?_
    rintro e w2 ⟨p, hp0, hp1, rfl, hc2, hg2⟩
    have hG2 := gtrans hG1 hg2
    have hz2 := hG2.size
    obtain ⟨W4, hW4⟩ : ∃ W4, W4 = w2.alloc (.cells #[.int .i64 1, .string ⟨#[120]⟩, .string ⟨#[]⟩, .slice none 0 0, .int .i64 p, .int .i64 10, .int .i64 0, .int .i64 1, .string ⟨#[121]⟩, .string ⟨#[]⟩, .slice none 0 0, .int .i64 p, .int .i64 10, .int .i64 0] 47) := ⟨_, rfl⟩
    have hb4 : Below w2.heap.size w2 W4 := by rw [hW4]; exact (Below.refl _ _).alloc (Nat.le_refl _) _
    have hT4 : TT w.heap.size W4 (some ⟨w2.heap.size, 0, none⟩) 2 2 [(none, 0), (none, 0)] [⟨1, ⟨#[120]⟩, ⟨#[]⟩, [], p, 10, 0⟩, ⟨1, ⟨#[121]⟩, ⟨#[]⟩, [], p, 10, 0⟩] := by
      rw [hW4]
      refine TT.up (B := w2.heap.size) ⟨rfl, by decide, rfl, .inr ⟨_, rfl, rfl, .inr ⟨w2.heap.size, 2, _, rfl, Nat.le_refl _, heap_alloc_new w2 _, Nat.le_refl _, by decide, rfl, rfl⟩⟩, fun k y z a b => ?_, fun i j y z a b hij q hq => ?_⟩ hz2
      · match k, a, b with
        | 0, a, b => simp at a b; subst a; subst b; exact OwnSt.nil _ _ _
        | 1, a, b => simp at a b; subst a; subst b; exact OwnSt.nil _ _ _
        | k + 2, a, b => simp at a
      · match i, a with
        | 0, a => simp at a; subst a; simp [rowOf] at hq
        | 1, a => simp at a; subst a; simp [rowOf] at hq
        | i + 2, a => simp at a
    have HW4 := Lib.hid hW4
    have hc4 := hc2.below hb4 hc2.lt
    have hg4 := gbelow hG2 hb4
    clear hW4
    go_wp2_with (rw [← HW4.out])
    refine (one_any _ _ _ hc4 (by omega) 2 (by omega) (by omega)).mono ?_
    rintro e w5 ⟨v, rfl, hc5, hg5⟩
    have hT5 := hT4.far hg5 hbl
    have hG5 := gtrans hg4 hg5
    have hok5 : okD [⟨1, ⟨#[120]⟩, ⟨#[]⟩, [], p, 10, 0⟩, ⟨1, ⟨#[121]⟩, ⟨#[]⟩, [], p, 10, 0⟩] := fun x hx => by
      simp at hx
      rcases hx with rfl | rfl <;> simp <;> decide
    have HOK5 := Lib.hid hok5
    clear hok5
    cases v
    · go_wp2_with fail
      go_ret
      exact ⟨_, _, _, _, _, rfl, hT5, by omega, HOK5.out, hc5.more (by omega) (by omega), hG5⟩
    · have hz5 := hG5.size
      go_wp2_with (at_builtin; refine wpList_append_l rfl _ _ rfl w.heap.size w5.heap.size _ _ _ _ _ ⟨1, ⟨#[122]⟩, ⟨#[]⟩, [], p, 1, 0⟩ none 0 rfl (by first | rfl | (simp; rfl)) hT5 (OwnSt.nil _ _ _) (hT5.rowsS (Nat.le_refl _)) hz5 (by omega) hz5 ?_; intro ao' cap' w9 hT9 hg9)
      have hrow : ∀ q, rowOf (some (⟨w2.heap.size, 0, none⟩ : Addr)) 2 = some q → w.heap.size ≤ q := fun q hq => (hT5.row.rowLt q hq).1
      go_ret
      exact ⟨_, _, _, _, _, rfl, hT9, by omega, okD_snoc HOK5.out (by simp; decide) (by simp; decide) (by simp), (hc5.grown hg9 (fun q hq => by have := hrow q hq; omega)).more (by omega) (by omega), gown hG5 hg9 hrow⟩
end Go.Proofs.YtdlddkgmjpmenaaGreatDoor
/-
  Draws of programs: a program that is mostly valid.
-/
namespace Go.Proofs.YtdlddkgmjpmenaaGreatDoor
open Go.RowKit
set_option linter.unusedVariables false
set_option linter.unusedSimpArgs false

def namesD : List ByteArray := [⟨#[120]⟩, ⟨#[121]⟩, ⟨#[117]⟩, ⟨#[118]⟩, ⟨#[119]⟩, ⟨#[114]⟩, ⟨#[115]⟩, ⟨#[116]⟩, ⟨#[115, 117, 109]⟩, ⟨#[108, 101, 115, 115]⟩, ⟨#[109, 111, 115, 116]⟩, ⟨#[98, 105, 116]⟩]
theorem namesD_len : ∀ s ∈ namesD, s.size ≤ 4 := by decide
/-- The names' block. -/
def NM (nb : Nat) (w : World) : Prop := w.heap[nb]? = some (.cells (namesD.map Value.string).toArray 9 (0, 0))
theorem NM.cell {nb : Nat} {w : World} (h : NM nb w) {j : Nat} {s : ByteArray} (hs : namesD[j]? = some s) : w.cell? ⟨nb, j, none⟩ = some (.string s) := by
  rw [cell_of_row w nb j _ _ (0, 0) h]
  simp [hs]
theorem NM.below {nb C : Nat} {w w' : World} (h : NM nb w) (hb : Below C w w') (hC : nb < C) : NM nb w' := by
  unfold NM
  rw [hb.block nb hC]
  exact h
theorem NM.grown {nb : Nat} {w w' : World} {row : Option Nat} (h : NM nb w) (hg : w.grownBy w' row) (hne : row ≠ some nb) : NM nb w' := by
  unfold NM
  rw [hg.block nb (lt_of_block h) (fun e => hne (by rw [← e]))]
  exact h
theorem block_keep {w w' : World} {row : Option Nat} {b : Nat} {o : Obj} (hg : w.grownBy w' row) (hb : w.heap[b]? = some o) (hne : row ≠ some b) : w'.heap[b]? = some o := by
  rw [hg.block b (lt_of_block hb) (fun e => hne (by rw [← e]))]
  exact hb
/-- The cells of a row of seven. -/
theorem seven_cells {w : World} {x : Nat} {e : TypeId} {v0 v1 v2 v3 v4 v5 v6 : Value} (h : w.heap[x]? = some (.cells #[v0, v1, v2, v3, v4, v5, v6] e (0, 0))) :
    (w.cell? ⟨x, 0, none⟩ = some v0 ∧ w.cell? ⟨x, 1, none⟩ = some v1 ∧ w.cell? ⟨x, 2, none⟩ = some v2 ∧ w.cell? ⟨x, 3, none⟩ = some v3 ∧ w.cell? ⟨x, 4, none⟩ = some v4 ∧ w.cell? ⟨x, 5, none⟩ = some v5 ∧ w.cell? ⟨x, 6, none⟩ = some v6) ∧ (∀ j, w.frozen? ⟨x, j, none⟩ = false) := by
  have c := fun j => cell_of_row w x j _ _ (0, 0) h
  have f := fun j => frozen_of_row w x j _ _ h
  refine ⟨⟨?_, ?_, ?_, ?_, ?_, ?_, ?_⟩, f⟩ <;> rw [c] <;> rfl
theorem cell_alloc_keep {W : World} {p : Addr} {v : Value} (h : W.cell? p = some v) (o : Obj) : (W.alloc o).cell? p = some v :=
  (((Below.refl W.heap.size W).alloc (Nat.le_refl _) o).cell (World.block_lt_of_cell? W _ h)).trans h
/-- A row of seven, each cell written. -/
theorem put7 {W : World} {x : Nat} {e : TypeId} {a0 a1 a2 a3 a4 a5 a6 v0 v1 v2 v3 v4 v5 v6 : Value} (h : W.heap[x]? = some (.cells #[a0, a1, a2, a3, a4, a5, a6] e (0, 0))) :
    (((((((W.setCell ⟨x, 0, none⟩ v0).setCell ⟨x, 1, none⟩ v1).setCell ⟨x, 2, none⟩ v2).setCell ⟨x, 3, none⟩ v3).setCell ⟨x, 4, none⟩ v4).setCell ⟨x, 5, none⟩ v5).setCell ⟨x, 6, none⟩ v6).heap[x]? = some (.cells #[v0, v1, v2, v3, v4, v5, v6] e (0, 0)) ∧
    (∀ C, C ≤ x → Below C W (((((((W.setCell ⟨x, 0, none⟩ v0).setCell ⟨x, 1, none⟩ v1).setCell ⟨x, 2, none⟩ v2).setCell ⟨x, 3, none⟩ v3).setCell ⟨x, 4, none⟩ v4).setCell ⟨x, 5, none⟩ v5).setCell ⟨x, 6, none⟩ v6)) := by
  have g0 : (W.setCell ⟨x, 0, none⟩ v0).heap[x]? = some (.cells #[v0, a1, a2, a3, a4, a5, a6] e (0, 0)) := by
    rw [heap_setCell_same _ x 0 _ _ _ h]
    rfl
  have g1 : ((W.setCell ⟨x, 0, none⟩ v0).setCell ⟨x, 1, none⟩ v1).heap[x]? = some (.cells #[v0, v1, a2, a3, a4, a5, a6] e (0, 0)) := by
    rw [heap_setCell_same _ x 1 _ _ _ g0]
    rfl
  have g2 : (((W.setCell ⟨x, 0, none⟩ v0).setCell ⟨x, 1, none⟩ v1).setCell ⟨x, 2, none⟩ v2).heap[x]? = some (.cells #[v0, v1, v2, a3, a4, a5, a6] e (0, 0)) := by
    rw [heap_setCell_same _ x 2 _ _ _ g1]
    rfl
  have g3 : ((((W.setCell ⟨x, 0, none⟩ v0).setCell ⟨x, 1, none⟩ v1).setCell ⟨x, 2, none⟩ v2).setCell ⟨x, 3, none⟩ v3).heap[x]? = some (.cells #[v0, v1, v2, v3, a4, a5, a6] e (0, 0)) := by
    rw [heap_setCell_same _ x 3 _ _ _ g2]
    rfl
  have g4 : (((((W.setCell ⟨x, 0, none⟩ v0).setCell ⟨x, 1, none⟩ v1).setCell ⟨x, 2, none⟩ v2).setCell ⟨x, 3, none⟩ v3).setCell ⟨x, 4, none⟩ v4).heap[x]? = some (.cells #[v0, v1, v2, v3, v4, a5, a6] e (0, 0)) := by
    rw [heap_setCell_same _ x 4 _ _ _ g3]
    rfl
  have g5 : ((((((W.setCell ⟨x, 0, none⟩ v0).setCell ⟨x, 1, none⟩ v1).setCell ⟨x, 2, none⟩ v2).setCell ⟨x, 3, none⟩ v3).setCell ⟨x, 4, none⟩ v4).setCell ⟨x, 5, none⟩ v5).heap[x]? = some (.cells #[v0, v1, v2, v3, v4, v5, a6] e (0, 0)) := by
    rw [heap_setCell_same _ x 5 _ _ _ g4]
    rfl
  have g6 : (((((((W.setCell ⟨x, 0, none⟩ v0).setCell ⟨x, 1, none⟩ v1).setCell ⟨x, 2, none⟩ v2).setCell ⟨x, 3, none⟩ v3).setCell ⟨x, 4, none⟩ v4).setCell ⟨x, 5, none⟩ v5).setCell ⟨x, 6, none⟩ v6).heap[x]? = some (.cells #[v0, v1, v2, v3, v4, v5, v6] e (0, 0)) := by
    rw [heap_setCell_same _ x 6 _ _ _ g5]
    rfl
  refine ⟨g6, fun C hC => ?_⟩
  exact (((((((Below.refl C W).setCell (p := ⟨x, 0, none⟩) hC v0).setCell (p := ⟨x, 1, none⟩) hC v1).setCell (p := ⟨x, 2, none⟩) hC v2).setCell (p := ⟨x, 3, none⟩) hC v3).setCell (p := ⟨x, 4, none⟩) hC v4).setCell (p := ⟨x, 5, none⟩) hC v5).setCell (p := ⟨x, 6, none⟩) hC v6
theorem wrap16 {r : Int} (h0 : 0 ≤ r) (h1 : r ≤ 6 - 1) : 1 ≤ IntKind.i64.wrap (1 + r) ∧ IntKind.i64.wrap (1 + r) ≤ 6 := by
  rw [IntKind.wrap_i64]
  omega
/-- The box of the line under way, above what stood at q. -/
def Box (q : World) (b xb m : Nat) (w : World) (L : Ln) (pa : Option Addr) (pc : Nat) : Prop := q.heap.size ≤ xb ∧ b < q.heap.size ∧ w.heap[xb]? = some (lineObj L pa pc) ∧ Cur w b m ∧ q.grownBy w (some b)
theorem Box.cells {q w : World} {b xb m pc : Nat} {L : Ln} {pa : Option Addr} (h : Box q b xb m w L pa pc) :
    (w.cell? ⟨xb, 0, none⟩ = some (.int .i64 L.kind) ∧ w.cell? ⟨xb, 1, none⟩ = some (.string L.name) ∧ w.cell? ⟨xb, 2, none⟩ = some (.string L.op) ∧ w.cell? ⟨xb, 3, none⟩ = some (.slice pa L.parts.length pc) ∧ w.cell? ⟨xb, 4, none⟩ = some (.int .i64 L.party) ∧ w.cell? ⟨xb, 5, none⟩ = some (.int .i64 L.width) ∧ w.cell? ⟨xb, 6, none⟩ = some (.int .i64 L.value)) ∧ (∀ j, w.frozen? ⟨xb, j, none⟩ = false) := seven_cells h.2.2.1
theorem Box.draw {q w w' : World} {b xb m m' pc : Nat} {L : Ln} {pa : Option Addr} (h : Box q b xb m w L pa pc) (hg : w.grownBy w' (some b)) (hc : Cur w' b m') : Box q b xb m' w' L pa pc :=
  ⟨h.1, h.2.1, block_keep hg h.2.2.1 (by have := h.1; have := h.2.1; simp; omega), hc, gtrans h.2.2.2.2 hg⟩
theorem Box.more {q w : World} {b xb m m' pc : Nat} {L : Ln} {pa : Option Addr} (h : Box q b xb m w L pa pc) (hm : m ≤ m') (hm' : m' ≤ 1000000000000) : Box q b xb m' w L pa pc :=
  ⟨h.1, h.2.1, h.2.2.1, h.2.2.2.1.more hm hm', h.2.2.2.2⟩
theorem Box.below {q w w' : World} {b xb m pc : Nat} {L : Ln} {pa : Option Addr} (h : Box q b xb m w L pa pc) (hb : Below w.heap.size w w') : Box q b xb m w' L pa pc :=
  h.draw (g_of_below hb _) (h.2.2.2.1.below hb h.2.2.2.1.lt)
theorem Box.put {q w : World} {b xb m pc pc' : Nat} {L L' : Ln} {pa pa' : Option Addr} (h : Box q b xb m w L pa pc) (j : Nat) (v : Value)
    (hv : lineObj L' pa' pc' = .cells ((#[.int .i64 L.kind, .string L.name, .string L.op, .slice pa L.parts.length pc, .int .i64 L.party, .int .i64 L.width, .int .i64 L.value] : Array Value).setIfInBounds j v) 47) : Box q b xb m (w.setCell ⟨xb, j, none⟩ v) L' pa' pc' := by
  have hB : Below q.heap.size w (w.setCell ⟨xb, j, none⟩ v) := (Below.refl _ w).setCell (p := ⟨xb, j, none⟩) h.1 v
  refine ⟨h.1, h.2.1, ?_, h.2.2.2.1.below hB h.2.1, ⟨hB.os.trans h.2.2.2.2.os, hB.tape.trans h.2.2.2.2.tape, hB.output.trans h.2.2.2.2.output, Nat.le_trans h.2.2.2.2.size hB.size, fun i hi hne => (hB.block i hi).trans (h.2.2.2.2.block i hi hne)⟩⟩
  rw [hv]
  exact heap_setCell_same w xb j _ _ v h.2.2.1
theorem Box.cur {q w : World} {b xb m pc : Nat} {L : Ln} {pa : Option Addr} (h : Box q b xb m w L pa pc) : Cur w b m := h.2.2.2.1
/-- The line under way has a name and an operator of a few bytes. -/
def lnOk (L : Ln) : Prop := L.name.size ≤ 4 ∧ L.op.size ≤ 4 ∧ L.parts.length ≤ 3
theorem laOps_new (w : World) : Calls Tryz.prog 74 #[] w (fun e w' => e = .returned (.slice (some ⟨w.heap.size, 0, none⟩) 8 8) ∧ w' = w.alloc (.cells (opsL.map Value.string).toArray 9)) := by
  go_enter Tryz.func74, Tryz.ntmps74
  go_wp2
  go_ret
  exact ⟨rfl, rfl⟩
/-- append as one step of a region that draws its order. -/
theorem step_append_any {P : Program} {ops : Array Oper} {o : Oper} {a : Act} {w : World} {K : Act → World → Prop} {Q : Exit → Act → World → Prop} {E : Prop} (hgd : o.guard = none) (s x : Operand) (t e : TypeId) (z : Value) (size bytes : Nat)
    (ht : P.underlying t = some (.slice e)) (hi : (P.info? e).map (fun i => (i.zero, i.size, i.bytes)) = some (some z, size, bytes)) (hzs : z.cells.size = size) (hsz : 0 < size)
    (ho : o.op = .call { callee := .builtin .append, args := #[s, x], argTypes := #[t, t] })
    (B : Nat) (ao : Option Addr) (n cap : Nat) (cs : List Value) (hs : a.eval s = .slice ao n cap) (hown : OwnC e size B w ao n cap cs)
    (C : Nat) (xo : Option Addr) (m c : Nat) (news : List Value) (hx : a.eval x = .slice xo m c) (hl : news.length = m * size) (hc : CellsAt w C xo news) (h1 : ∀ u ∈ news, u.oneCell' = true)
    (hby : bytes ≤ 128) (hn : n + m < 1000000000000) (hB : B ≤ w.heap.size)
    (h : ∀ ao' cap' w', OwnC e size B w' ao' (n + m) cap' (cs ++ news) → w.grownBy w' (rowOf ao cap) → K (a.put o.dst (.slice ao' (n + m) cap')) w') :
    if Region.wanted o (yielded ops a.tmps) = true then Oper.wp P o a w K Q else E := by
  rw [if_pos (by simp [Region.wanted, hgd])]
  obtain ⟨i, hi1, hi2, hi3, hi4⟩ := info_parts hi
  have hb2 : (n + m) * bytes ≤ 140737488355328 := by
    have : (n + m) * bytes ≤ (n + m) * 128 := Nat.mul_le_mul_left _ hby
    omega
  obtain ⟨ao', cap', w', hr, h2, h3⟩ := run_append_any (P := P) w t o.type e i z size bytes ht hi1 hi2 hi3 hi4 hzs hsz B ao n cap cs hown C xo m c news hl hc h1 (by unfold maxLen; omega) hb2 hB
  unfold Oper.wp execOp
  simp only [ho, resolve, invoke, builtin, Sem.run_bind, Sem.run_pure, Result.andThen_ok, List.map_toArray, List.map_cons, List.map_nil, hs, hx, hr]
  exact h ao' cap' w' h2 h3
theorem step_append_s {ops : Array Oper} {o : Oper} {a : Act} {w : World} {K : Act → World → Prop} {Q : Exit → Act → World → Prop} {E : Prop} (hgd : o.guard = none) (s x : Operand)
    (ho : o.op = .call { callee := .builtin .append, args := #[s, x], argTypes := #[45, 45] })
    (B : Nat) (ao : Option Addr) (n cap : Nat) (ss : List ByteArray) (u : ByteArray) (hs : a.eval s = .slice ao n cap) (hx : a.eval x = .slice (some ⟨w.heap.size, 0, none⟩) 1 1)
    (hown : OwnSt B w ao n cap ss) (hn : n < 999999990) (hB : B ≤ w.heap.size)
    (hK : ∀ ao' cap' w', OwnSt B w' ao' (n + 1) cap' (ss ++ [u]) → w.grownBy w' (rowOf ao cap) → K (a.put o.dst (.slice ao' (n + 1) cap')) w') :
    if Region.wanted o (yielded ops a.tmps) = true then Oper.wp Tryz.prog o a (w.alloc (.cells #[.string u] 9)) K Q else E :=
  step_append_any hgd s x 45 9 (.string ⟨#[]⟩) 1 16 Tryz.underlying45 str_info rfl (by decide) ho B ao n cap (ss.map Value.string) hs (hown.2.2.alloc _) _ _ 1 1 [.string u] hx rfl (cellsAt_new w [.string u] 9) (by simp [Value.oneCell']) (by decide) (by omega) (by simp; omega)
    fun ao' cap' w' h1 h2 => hK ao' cap' w' ⟨by simp [hown.1], by omega, by simpa using h1⟩ (grownBy_old h2)
/-- A line is appended. -/
theorem step_append_l {ops : Array Oper} {o : Oper} {a : Act} {w : World} {K : Act → World → Prop} {Q : Exit → Act → World → Prop} {E : Prop} (hgd : o.guard = none) (s y : Operand)
    (ho : o.op = .call { callee := .builtin .append, args := #[s, y], argTypes := #[22, 22] })
    (B S : Nat) (ao : Option Addr) (n cap : Nat) (hs : List (Option Addr × Nat)) (ls : List Ln) (l : Ln) (po : Option Addr) (pc : Nat) (hv : a.eval s = .slice ao n cap) (hx : a.eval y = .slice (some ⟨w.heap.size, 0, none⟩) 1 1)
    (h : TT B w ao n cap hs ls) (hxs : OwnSt S w po l.parts.length pc l.parts) (hS : ∀ (i : Nat) (y : Option Addr × Nat) (p : Nat), hs[i]? = some y → rowOf y.1 y.2 = some p → p < S) (hBS : B ≤ S) (hn : n < 999999990) (hB : B ≤ w.heap.size)
    (hQ : ∀ ao' cap' w', TT B w' ao' (n + 1) cap' (hs ++ [(po, pc)]) (ls ++ [l]) → w.grownBy w' (rowOf ao cap) → K (a.put o.dst (.slice ao' (n + 1) cap')) w') :
    if Region.wanted o (yielded ops a.tmps) = true then Oper.wp Tryz.prog o a (w.alloc (.cells #[.int .i64 l.kind, .string l.name, .string l.op, .slice po l.parts.length pc, .int .i64 l.party, .int .i64 l.width, .int .i64 l.value] 47)) K Q else E :=
  step_append_any hgd s y 22 47 (.agg #[.int .i64 0, .string ⟨#[]⟩, .string ⟨#[]⟩, .slice none 0 0, .int .i64 0, .int .i64 0, .int .i64 0]) 7 88 Tryz.underlying22 Line_info rfl (by decide) ho B ao n cap (linesCells ls hs) hv (h.row.alloc _) _ _ 1 1 (lineCells l (po, pc)) hx rfl (cellsAt_new w (lineCells l (po, pc)) 47) (lines_oneCell _ _) (by decide) (by omega) (by simp; omega)
    fun ao' cap' w' h1 h2 => hQ ao' cap' w' (h.app (x := (po, pc)) hxs hS hBS h1 (grownBy_old h2) (by omega)) (grownBy_old h2)
/-- The same, where the line's row was made earlier. -/
theorem step_append_lg {ops : Array Oper} {o : Oper} {a : Act} {w : World} {K : Act → World → Prop} {Q : Exit → Act → World → Prop} {E : Prop} (hgd : o.guard = none) (s y : Operand)
    (ho : o.op = .call { callee := .builtin .append, args := #[s, y], argTypes := #[22, 22] })
    (B S g : Nat) (ao : Option Addr) (n cap : Nat) (hs : List (Option Addr × Nat)) (ls : List Ln) (l : Ln) (po : Option Addr) (pc : Nat) (hv : a.eval s = .slice ao n cap) (hx : a.eval y = .slice (some ⟨g, 0, none⟩) 1 1)
    (hrow : w.heap[g]? = some (lineObj l po pc))
    (h : TT B w ao n cap hs ls) (hxs : OwnSt S w po l.parts.length pc l.parts) (hS : ∀ (i : Nat) (y : Option Addr × Nat) (p : Nat), hs[i]? = some y → rowOf y.1 y.2 = some p → p < S) (hBS : B ≤ S) (hn : n < 999999990) (hB : B ≤ w.heap.size)
    (hQ : ∀ ao' cap' w', TT B w' ao' (n + 1) cap' (hs ++ [(po, pc)]) (ls ++ [l]) → w.grownBy w' (rowOf ao cap) → K (a.put o.dst (.slice ao' (n + 1) cap')) w') :
    if Region.wanted o (yielded ops a.tmps) = true then Oper.wp Tryz.prog o a w K Q else E :=
  step_append_any hgd s y 22 47 (.agg #[.int .i64 0, .string ⟨#[]⟩, .string ⟨#[]⟩, .slice none 0 0, .int .i64 0, .int .i64 0, .int .i64 0]) 7 88 Tryz.underlying22 Line_info rfl (by decide) ho B ao n cap (linesCells ls hs) hv h.row w.heap.size (some ⟨g, 0, none⟩) 1 1 (lineCells l (po, pc)) hx rfl
    (.inr ⟨g, 0, rfl, lt_of_block hrow, fun j u hu => by
      rw [Nat.zero_add, cell_of_row w g j _ _ (0, 0) hrow]
      simpa [lineCells] using hu⟩) (lines_oneCell _ _) (by decide) (by omega) hB
    fun ao' cap' w' h1 h2 => hQ ao' cap' w' (h.app (x := (po, pc)) hxs hS hBS h1 h2 (by omega)) h2
theorem linesC_oneCell : ∀ (ls : List Ln) (hs : List (Option Addr × Nat)), ∀ u ∈ linesCells ls hs, u.oneCell' = true
  | [], _ => fun u hu => by simp [linesCells] at hu
  | l :: ls, [] => fun u hu => by simp [linesCells] at hu
  | l :: ls, x :: hs => fun u hu => by
    simp only [linesCells, List.mem_append] at hu
    rcases hu with hu | hu
    · exact lines_oneCell l x u hu
    · exact linesC_oneCell ls hs u hu
/-- A list of lines is copied: the copy shares the lines' parts. -/
theorem step_copy_l {ops : Array Oper} {o : Oper} {a : Act} {w : World} {K : Act → World → Prop} {Q : Exit → Act → World → Prop} {E : Prop} (hgd : o.guard = none) (s y : Operand)
    (ho : o.op = .call { callee := .builtin .append, args := #[s, y], argTypes := #[22, 22] })
    (B : Nat) (so ao : Option Addr) (n cap : Nat) (hs : List (Option Addr × Nat)) (ls : List Ln) (hv : a.eval s = .slice so 0 0) (hx : a.eval y = .slice ao n cap)
    (h : TT B w ao n cap hs ls) (hn : n < 999999990) (hB : B ≤ w.heap.size)
    (hQ : ∀ ao' cap' w', TT B w' ao' n cap' hs ls → TT B w' ao n cap hs ls → w.grownBy w' none → K (a.put o.dst (.slice ao' n cap')) w') :
    if Region.wanted o (yielded ops a.tmps) = true then Oper.wp Tryz.prog o a w K Q else E :=
  step_append_any hgd s y 22 47 (.agg #[.int .i64 0, .string ⟨#[]⟩, .string ⟨#[]⟩, .slice none 0 0, .int .i64 0, .int .i64 0, .int .i64 0]) 7 88 Tryz.underlying22 Line_info rfl (by decide) ho B so 0 0 [] hv (OwnC.nil _ _ _ _ _) _ ao n cap (linesCells ls hs) hx (by rw [linesCells_length _ _ (h.len.trans h.hlen.symm), h.len]) h.row.cellsAt (linesC_oneCell _ _) (by decide) (by omega) hB
    fun ao' cap' w' h1 h2 => by
      rw [Nat.zero_add] at h1 ⊢
      have hr : rowOf so 0 = none := by unfold rowOf; split <;> simp_all
      rw [hr] at h2
      have h3 := h.farO h2 (fun g e => by cases e)
      exact hQ _ _ _ ⟨h.len, h.le, h.hlen, by simpa using h1, h3.parts, h3.apart⟩ h3 h2
/-- An owned row's block is no block of another type. -/
theorem own_ne_block {e t : TypeId} {z B : Nat} {w : World} {ao : Option Addr} {n cap x : Nat} {cs : List Value} {vs : Array Value} {fr : Nat × Nat} (h : OwnC e z B w ao n cap cs) (hx : w.heap[x]? = some (.cells vs t fr)) (hne : e ≠ t) : rowOf ao cap ≠ some x := by
  intro hp
  rcases h with ⟨_, _, h0⟩ | ⟨g, rfl, hr⟩
  · subst h0; simp [rowOf] at hp
  have hg : g = x := by unfold rowOf at hp; split at hp <;> simp_all
  subst hg
  rcases hr.2 with ⟨hv, _⟩ | ⟨b, cap1, cur1, hv, _, hb, _⟩
  · cases hv
  · cases hv
    rw [hb] at hx
    simp only [Option.some.injEq, Obj.cells.injEq] at hx
    exact hne hx.2.1
theorem Box.grown {q w w' : World} {b xb m pc : Nat} {L : Ln} {pa : Option Addr} {row : Option Nat} (h : Box q b xb m w L pa pc) (hg : w.grownBy w' row) (hr : ∀ p, row = some p → q.heap.size ≤ p ∧ p ≠ xb) : Box q b xb m w' L pa pc :=
  ⟨h.1, h.2.1, block_keep hg h.2.2.1 (fun e => (hr xb e).2 rfl), h.2.2.2.1.grown hg (fun p hp => Nat.lt_of_lt_of_le h.2.1 (hr p hp).1), ⟨hg.os.trans h.2.2.2.2.os, hg.tape.trans h.2.2.2.2.tape, hg.output.trans h.2.2.2.2.output, Nat.le_trans h.2.2.2.2.size hg.size, fun i hi hne => (hg.block i (Nat.lt_of_lt_of_le hi h.2.2.2.2.size) (fun e => by have := (hr i e.symm).1; omega)).trans (h.2.2.2.2.block i hi hne)⟩⟩
theorem laParts_le (k : Int) : 0 ≤ laParts k ∧ laParts k ≤ 3 := by
  unfold laParts
  split <;> (try split) <;> (try split) <;> decide
theorem opsL_len : ∀ s ∈ opsL, s.size ≤ 4 := by decide
end Go.Proofs.YtdlddkgmjpmenaaGreatDoor
/-
  Draws of programs: a list of lines is copied and one more line is appended to the copy.
-/
namespace Go.Proofs.YtdlddkgmjpmenaaGreatDoor
open Go.RowKit
set_option linter.unusedVariables false
set_option linter.unusedSimpArgs false

/-- Only a block above all rows has turned. -/
theorem TT.farN {B n cap : Nat} {W w w' : World} {ao : Option Addr} {hs : List (Option Addr × Nat)} {ls : List Ln} {row : Option Nat} (h0 : TT B W ao n cap hs ls) (h : TT B w ao n cap hs ls) (hg : w.grownBy w' row) (hN : ∀ g, row = some g → W.heap.size ≤ g) : TT B w' ao n cap hs ls :=
  ⟨h.len, h.le, h.hlen, h.row.kept hg (fun q e hc he => by
    have h1 := hN q he
    have := (h0.row.rowLt q (by subst e; simp [rowOf, hc])).2
    omega), fun k l x a b => (h.parts k l x a b).other hg (fun p q hp hq => by have := hN q hq; have := ((h0.parts k l x a b).rowLt p hp).2; omega), h.apart⟩
/-- A list of lines is copied into a row of its own. -/
theorem step_copy_n {ops : Array Oper} {o : Oper} {a : Act} {w : World} {K : Act → World → Prop} {Q : Exit → Act → World → Prop} {E : Prop} (hgd : o.guard = none) (s y : Operand)
    (ho : o.op = .call { callee := .builtin .append, args := #[s, y], argTypes := #[22, 22] })
    (B : Nat) (so ao : Option Addr) (n cap : Nat) (hs : List (Option Addr × Nat)) (ls : List Ln) (hv : a.eval s = .slice so 0 0) (hx : a.eval y = .slice ao n cap)
    (h : TT B w ao n cap hs ls) (hn : n < 999999990) (hB : B ≤ w.heap.size)
    (hQ : ∀ ao' cap' w', TT B w' ao' n cap' hs ls → TT B w' ao n cap hs ls → (∀ p, rowOf ao' cap' = some p → w.heap.size ≤ p) → w.grownBy w' none → K (a.put o.dst (.slice ao' n cap')) w') :
    if Region.wanted o (yielded ops a.tmps) = true then Oper.wp Tryz.prog o a w K Q else E :=
  step_append_any hgd s y 22 47 (.agg #[.int .i64 0, .string ⟨#[]⟩, .string ⟨#[]⟩, .slice none 0 0, .int .i64 0, .int .i64 0, .int .i64 0]) 7 88 Tryz.underlying22 Line_info rfl (by decide) ho w.heap.size so 0 0 [] hv (OwnC.nil _ _ _ _ _) _ ao n cap (linesCells ls hs) hx (by rw [linesCells_length _ _ (h.len.trans h.hlen.symm), h.len]) h.row.cellsAt (linesC_oneCell _ _) (by decide) (by omega) (Nat.le_refl _)
    fun ao' cap' w' h1 h2 => by
      rw [Nat.zero_add] at h1 ⊢
      have hr : rowOf so 0 = none := by unfold rowOf; split <;> simp_all
      rw [hr] at h2
      have h3 := h.farO h2 (fun g e => by cases e)
      have h4 : OwnC 47 7 w.heap.size w' ao' n cap' (linesCells ls hs) := by simpa using h1
      exact hQ _ _ _ ⟨h.len, h.le, h.hlen, h4.up hB, h3.parts, h3.apart⟩ h3 (fun p hp => (h4.rowLt p hp).1) h2
/-- A row of one text. -/
theorem own_str_at {S g : Nat} {w : World} {s : ByteArray} (h : w.heap[g]? = some (.cells #[.string s] 9 (0, 0))) (hS : S ≤ g) : OwnSt S w (some ⟨g, 0, none⟩) 1 1 [s] :=
  ⟨rfl, by decide, .inr ⟨_, rfl, rfl, .inr ⟨g, 1, _, rfl, hS, h, Nat.le_refl _, by decide, rfl, rfl⟩⟩⟩
/-- What stands when a row above all others has turned. -/
theorem append_after {B n cap M b : Nat} {wq W w9 wx w10 : World} {ao : Option Addr} {hs : List (Option Addr × Nat)} {ls : List Ln} {row : Option Nat} (h0 : TT B W ao n cap hs ls) (hb : Below w9.heap.size w9 wx) (h9 : TT B w9 ao n cap hs ls) (hrow : ∀ p, row = some p → W.heap.size ≤ p)
    (hc : Cur w9 b M) (hg : wq.grownBy w9 (some b)) (hg10 : wx.grownBy w10 row) (hbq : b < wq.heap.size) (hqW : wq.heap.size ≤ W.heap.size) : TT B w10 ao n cap hs ls ∧ Cur w10 b M ∧ wq.grownBy w10 (some b) :=
  ⟨h0.farN (h9.below hb (Nat.le_refl _)) hg10 hrow, (hc.below hb hc.lt).grown hg10 (fun p hp => by have := hrow p hp; omega), gown (gbelow hg hb) hg10 (fun p hp => by have := hrow p hp; omega)⟩
theorem blk_alloc {W : World} {g : Nat} {ob : Obj} (h : W.heap[g]? = some ob) (o : Obj) : (W.alloc o).heap[g]? = some ob :=
  (((Below.refl W.heap.size W).alloc (Nat.le_refl _) o).block g (lt_of_block h)).trans h
def okE (ls : List Ln) : Prop := ∀ x ∈ ls, lnOk x
/-- A program of at least one line is drawn. -/
def DrewQ (b m : Nat) (w : World) (e : Ending) (w' : World) : Prop := ∃ (ls : List Ln) (ao : Option Addr) (n cap : Nat) (hs : List (Option Addr × Nat)), e = .returned (.slice ao n cap) ∧ TT w.heap.size w' ao n cap hs ls ∧ 1 ≤ n ∧ n ≤ 40 ∧ okE ls ∧ Cur w' b m ∧ w.grownBy w' (some b)
theorem linesCells_set2 : ∀ (ls : List Ln) (hs : List (Option Addr × Nat)) (k j : Nat) (l l' : Ln) (x x' : Option Addr × Nat) (v : Value), ls[k]? = some l → hs[k]? = some x → j < 7 → lineCells l' x' = (lineCells l x).set j v → linesCells (ls.set k l') (hs.set k x') = (linesCells ls hs).set (k * 7 + j) v
  | [], _, k, j, l, l', x, x', v, e, _, _, _ => by simp at e
  | _ :: _, [], k, j, l, l', x, x', v, _, e, _, _ => by simp at e
  | l0 :: ls, h0 :: hs, 0, j, l, l', x, x', v, e1, e2, hj, e3 => by
    simp at e1 e2
    subst e1
    subst e2
    rw [List.set_cons_zero, List.set_cons_zero, linesCells, linesCells, Nat.zero_mul, Nat.zero_add, List.set_append_left _ _ (by exact hj), e3]
  | l0 :: ls, h0 :: hs, k + 1, j, l, l', x, x', v, e1, e2, hj, e3 => by
    simp at e1 e2
    rw [List.set_cons_succ, List.set_cons_succ, linesCells, linesCells, linesCells_set2 ls hs k j l l' x x' v e1 e2 hj e3]
    have hl : (lineCells l0 h0).length = 7 := rfl
    rw [List.set_append_right _ _ (by rw [hl]; omega), hl]
    congr 2
    omega
/-- The parts of a line are replaced by a row of their own. -/
theorem TT.setP {B S n cap : Nat} {w : World} {hs : List (Option Addr × Nat)} {ls : List Ln} {g : Nat} (h : TT B w (some ⟨g, 0, none⟩) n cap hs ls) {k : Nat} {l : Ln} (hl : ls[k]? = some l) {po : Option Addr} {pc : Nat} {ps : List ByteArray} (hx : OwnSt S w po ps.length pc ps) (hS : ∀ (i : Nat) (y : Option Addr × Nat) (p : Nat), hs[i]? = some y → rowOf y.1 y.2 = some p → p < S) (hBS : B ≤ S) :
    TT B (w.setCell ⟨g, k * 7 + 3, none⟩ (.slice po ps.length pc)) (some ⟨g, 0, none⟩) n cap (hs.set k (po, pc)) (ls.set k ⟨l.kind, l.name, l.op, ps, l.party, l.width, l.value⟩) := by
  obtain ⟨g', x, hg, hx0, h1, h2, h3, h4, h5⟩ := h.at hl
  simp only [Option.some.injEq, Addr.mk.injEq] at hg
  obtain ⟨rfl, _⟩ := hg
  have hk : k < n := by rw [← h.len]; exact (List.getElem?_eq_some_iff.1 hl).1
  obtain ⟨q1, q2⟩ := World.ownsRow.stored h3 (k * 7 + 3) (.slice po ps.length pc)
  rw [← linesCells_set2 ls hs k 3 l ⟨l.kind, l.name, l.op, ps, l.party, l.width, l.value⟩ x (po, pc) _ hl hx0 (by decide) rfl] at q1
  have hrow : rowOf (some ⟨g, 0, none⟩) cap = some g := by
    have hcap : cap ≠ 0 := by
      rcases h3.2 with ⟨hv, _⟩ | ⟨b', cap1, cur1, hv, _, hb, hn', _⟩
      · cases hv
      · simp only [Value.slice.injEq] at hv
        obtain ⟨_, _, rfl⟩ := hv
        omega
    simp [rowOf, hcap]
  refine ⟨by rw [List.length_set]; exact h.len, h.le, by rw [List.length_set]; exact h.hlen, .inr ⟨g, rfl, q1⟩, fun i y z a b => ?_, ?_⟩
  · by_cases hik : k = i
    · subst hik
      rw [List.getElem?_set_self (by rw [h.len]; exact hk)] at a
      rw [List.getElem?_set_self (by rw [h.hlen]; exact hk)] at b
      simp only [Option.some.injEq] at a b
      subst a
      subst b
      refine (hx.up hBS).other q2 fun p q hp hq => ?_
      simp only [Option.some.injEq] at hq
      subst hq
      exact ownC_apart hx.2.2 h.row (by decide) p _ hp hrow
    · rw [List.getElem?_set_ne hik] at a b
      refine (h.parts i y z a b).other q2 fun p q hp hq => ?_
      simp only [Option.some.injEq] at hq
      subst hq
      exact ownC_apart (h.parts i y z a b).2.2 h.row (by decide) p _ hp hrow
  · intro i j x1 y1 a b hij p hp hq
    by_cases hki : k = i
    · subst hki
      rw [List.getElem?_set_self (by rw [h.hlen]; exact hk)] at a
      rw [List.getElem?_set_ne hij] at b
      simp only [Option.some.injEq] at a
      subst a
      have e1 := (hx.rowLt p hp).1
      have e2 := hS j y1 p b hq
      omega
    · rw [List.getElem?_set_ne hki] at a
      by_cases hkj : k = j
      · subst hkj
        rw [List.getElem?_set_self (by rw [h.hlen]; exact hk)] at b
        simp only [Option.some.injEq] at b
        subst b
        have e1 := (hx.rowLt p hq).1
        have e2 := hS i x1 p a hp
        omega
      · rw [List.getElem?_set_ne hkj] at b
        exact h.apart i j x1 y1 a b hij p hp hq
theorem okD_set {ls : List Ln} {k : Nat} {l : Ln} (h : okD ls) (h1 : l.name.size ≤ 100) (h2 : l.op.size ≤ 100) (h3 : l.parts.length ≤ 100) : okD (ls.set k l) := by
  intro x hx
  rcases List.mem_or_eq_of_mem_set hx with hx | rfl
  · exact h x hx
  · exact ⟨h1, h2, h3⟩
theorem below_ad (w : World) (o : Obj) : Below w.heap.size (w.drewN 1) (w.alloc o).drew :=
  bdrewN ((bdrewN (Below.refl w.heap.size w) 1).alloc (Nat.le_refl _) o : Below w.heap.size w ((w.drewN 1).alloc o)) 0 |> fun h => ⟨h.os, h.tape, h.output, h.size, h.block⟩
theorem below_aad (w : World) (o o' : Obj) : Below w.heap.size (w.drewN 1) ((w.alloc o).alloc o').drew :=
  (((Below.refl w.heap.size w).alloc (Nat.le_refl _) o).alloc (by simp) o' : Below w.heap.size w ((w.alloc o).alloc o')) |> fun h => ⟨h.os, h.tape, h.output, h.size, h.block⟩
theorem alloc_new2 (W : World) (a o : Obj) : ((W.alloc a).alloc o).heap[W.heap.size + 1]? = some o := by
  have h := heap_alloc_new (W.alloc a) o
  have h2 : (W.alloc a).heap.size = W.heap.size + 1 := by simp
  rw [h2] at h
  exact h
theorem okE_nil : okE [] := fun x h => by simp at h
theorem okE_snoc {ls : List Ln} {l : Ln} (h : okE ls) (h1 : lnOk l) : okE (ls ++ [l]) := by
  intro x hx
  rw [List.mem_append] at hx
  rcases hx with hx | hx
  · exact h x hx
  · simp at hx; subst hx; exact h1
theorem okE.okD {ls : List Ln} (h : okE ls) : okD ls := fun x hx => by
  obtain ⟨h1, h2, h3⟩ := h x hx
  exact ⟨by omega, by omega, by omega⟩
theorem below_aaad (w : World) (o o' o'' : Obj) : Below w.heap.size (w.drewN 1) (((w.alloc o).alloc o').alloc o'').drew :=
  ((((Below.refl w.heap.size w).alloc (Nat.le_refl _) o).alloc (by simp) o').alloc (by simp; omega) o'' : Below w.heap.size w (((w.alloc o).alloc o').alloc o'')) |> fun h => ⟨h.os, h.tape, h.output, h.size, h.block⟩
theorem alloc_new3 (W : World) (a c o : Obj) : (((W.alloc a).alloc c).alloc o).heap[W.heap.size + 1 + 1]? = some o := by
  have h := alloc_new2 (W.alloc a) c o
  have h2 : (W.alloc a).heap.size = W.heap.size + 1 := by simp
  rw [h2] at h
  exact h
theorem below_of_grown {C : Nat} {a w w' : World} (hg : w.grownBy w' none) (hC : C ≤ a.heap.size) (h : Below C a w) : Below C a w' :=
  h.grown hg (Nat.le_trans hC h.size) (fun p hp => by cases hp)
end Go.Proofs.YtdlddkgmjpmenaaGreatDoor
/-
  The laws' comparisons of equal answers: lists of ints, of texts, of lines.
-/
namespace Go.Proofs.YtdlddkgmjpmenaaGreatDoor
open Go.RowKit
set_option linter.unusedVariables false
set_option linter.unusedSimpArgs false

theorem qInts_same (w : World) (B C : Nat) (ao bo : Option Addr) (n c d : Nat) (xs : List Int) (ha : Ints w B ao n xs) (hb : Ints w C bo n xs) (hB : B ≤ w.heap.size) (hC : C ≤ w.heap.size) :
    Calls Tryz.prog 19 #[.slice ao n c, .slice bo n d] w (RetB true w) := by
  have hn := ha.le
  go_enter Tryz.func19, Tryz.ntmps19
  go_wp2
  go_loopw [13] (fun i wr => ∃ k : Nat, k ≤ n ∧ i = .int .i64 k ∧ Below w.heap.size w wr) (fun i _ => n - (intOf i).toNat)
  case atStart => exact ⟨0, Nat.zero_le _, rfl, Below.refl _ _⟩
  case round =>
    obtain ⟨k, hk, rfl, hbel⟩ := hrel
    by_cases hlt : k < n
    · obtain ⟨b1, o1, x, rfl, hb1, hx, hc1⟩ := (ha.below hbel hB).at hlt
      obtain ⟨b2, o2, y, rfl, hb2, hy, hc2⟩ := (hb.below hbel hC).at hlt
      obtain rfl : x = y := by rw [hx] at hy; simpa using hy
      clear hx hy
      go_wp2
      go_quiet (fail)
      have hbd := bdrewN hbel nq
      generalize wr.drewN nq = wd at hbd ⊢
      clear hc1 hc2
      go_wp2_with fail
      go_roundw
      case rel => exact ⟨k + 1, by omega, by go_num, hbd⟩
      case measure => simp [intOf] <;> omega
    · obtain rfl : k = n := by omega
      go_wp2
      go_ret
      exact ⟨rfl, hbel⟩
set_option maxHeartbeats 2000000 in
theorem qTexts_same (w : World) (B C : Nat) (ao bo : Option Addr) (n c d : Nat) (ss : List ByteArray) (ha : Strs w B ao n ss) (hb : Strs w C bo n ss) (hB : B ≤ w.heap.size) (hC : C ≤ w.heap.size) :
    Calls Tryz.prog 51 #[.slice ao n c, .slice bo n d] w (RetB true w) := by
  have hn := ha.le
  go_enter Tryz.func51, Tryz.ntmps51
  go_wp2
  go_loopw [13] (fun i wr => ∃ k : Nat, k ≤ n ∧ i = .int .i64 k ∧ Below w.heap.size w wr) (fun i _ => n - (intOf i).toNat)
  case atStart => exact ⟨0, Nat.zero_le _, rfl, Below.refl _ _⟩
  case round =>
    obtain ⟨k, hk, rfl, hbel⟩ := hrel
    by_cases hlt : k < n
    · obtain ⟨b1, o1, x, rfl, hb1, hx, hc1⟩ := (ha.below hbel hB).at hlt
      obtain ⟨b2, o2, y, rfl, hb2, hy, hc2⟩ := (hb.below hbel hC).at hlt
      obtain rfl : x = y := by rw [hx] at hy; simpa using hy
      clear hx hy
      go_wp2
      go_quiet (fail)
      have hbd := bdrewN hbel nq
      generalize wr.drewN nq = wd at hbd ⊢
      clear hc1 hc2
      go_wp2_with fail
      go_roundw
      case rel => exact ⟨k + 1, by omega, by go_num, hbd⟩
      case measure => simp [intOf] <;> omega
    · obtain rfl : k = n := by omega
      go_wp2
      go_ret
      exact ⟨rfl, hbel⟩
theorem below_drew {B : Nat} {a w : World} (h : Below B a w) : Below B a w.drew := ⟨h.os, h.tape, h.output, h.size, h.block⟩
set_option maxHeartbeats 8000000 in
set_option maxRecDepth 20000 in
theorem qLines_same (w : World) (B C : Nat) (ao bo : Option Addr) (n c d : Nat) (ls : List Ln) (ha : Lns w B ao n ls) (hb : Lns w C bo n ls) (hB : B ≤ w.heap.size) (hC : C ≤ w.heap.size) :
    Calls Tryz.prog 20 #[.slice ao n c, .slice bo n d] w (RetB true w) := by
  have hn := ha.le
  go_enter Tryz.func20, Tryz.ntmps20
  go_wp2
  go_loopw [15] (fun i wr => ∃ k : Nat, k ≤ n ∧ i = .int .i64 k ∧ Below w.heap.size w wr) (fun i _ => n - (intOf i).toNat)
  case atStart => exact ⟨0, Nat.zero_le _, rfl, Below.refl _ _⟩
  case round =>
    obtain ⟨k, hk, rfl, hbel⟩ := hrel
    obtain ⟨wq, rfl⟩ : ∃ wq : World, wq = wr := ⟨_, rfl⟩
    by_cases hlt : k < n
    · obtain ⟨b1, o1, x, pa, pc, rfl, hb1, hx, hps, g0, g1, g2, g3, g4, g5, g6⟩ := (ha.below hbel hB).at hlt
      obtain ⟨b2, o2, y, pb, qc, rfl, hb2, hy, hqs, k0, k1, k2, k3, k4, k5, k6⟩ := (hb.below hbel hC).at hlt
      obtain rfl : x = y := by rw [hx] at hy; simpa using hy
      clear hx hy
      have hz := hbel.size
      have l1 : b1 < wq.heap.size := by omega
      have l2 : b2 < wq.heap.size := by omega
      go_upto_region 6 with fail
      go_cut [6, 7] (fun s6 s7 wx => ∃ p q : Nat, s6 = .pointer (some ⟨p, 0, none⟩) ∧ s7 = .pointer (some ⟨q, 0, none⟩) ∧ wx.heap[p]? = some (lineObj x pa pc) ∧ wx.heap[q]? = some (lineObj x pb qc) ∧ Below wq.heap.size wq wx)
      case first =>
        have hS : ∀ W' : World, Below wq.heap.size wq W' → W'.cell? ⟨b1, o1 + k * 7, none⟩ = some (.int .i64 x.kind) ∧ W'.cell? ⟨b1, o1 + k * 7 + 1, none⟩ = some (.string x.name) ∧ W'.cell? ⟨b1, o1 + k * 7 + 2, none⟩ = some (.string x.op) ∧ W'.cell? ⟨b1, o1 + k * 7 + 3, none⟩ = some (.slice pa x.parts.length pc) ∧ W'.cell? ⟨b1, o1 + k * 7 + 4, none⟩ = some (.int .i64 x.party) ∧ W'.cell? ⟨b1, o1 + k * 7 + 5, none⟩ = some (.int .i64 x.width) ∧ W'.cell? ⟨b1, o1 + k * 7 + 6, none⟩ = some (.int .i64 x.value) ∧
            W'.cell? ⟨b2, o2 + k * 7, none⟩ = some (.int .i64 x.kind) ∧ W'.cell? ⟨b2, o2 + k * 7 + 1, none⟩ = some (.string x.name) ∧ W'.cell? ⟨b2, o2 + k * 7 + 2, none⟩ = some (.string x.op) ∧ W'.cell? ⟨b2, o2 + k * 7 + 3, none⟩ = some (.slice pb x.parts.length qc) ∧ W'.cell? ⟨b2, o2 + k * 7 + 4, none⟩ = some (.int .i64 x.party) ∧ W'.cell? ⟨b2, o2 + k * 7 + 5, none⟩ = some (.int .i64 x.width) ∧ W'.cell? ⟨b2, o2 + k * 7 + 6, none⟩ = some (.int .i64 x.value) ∧ Below wq.heap.size wq W' :=
          fun W' h => ⟨(h.cell (p := ⟨b1, _, none⟩) l1).trans g0, (h.cell (p := ⟨b1, _, none⟩) l1).trans g1, (h.cell (p := ⟨b1, _, none⟩) l1).trans g2, (h.cell (p := ⟨b1, _, none⟩) l1).trans g3, (h.cell (p := ⟨b1, _, none⟩) l1).trans g4, (h.cell (p := ⟨b1, _, none⟩) l1).trans g5, (h.cell (p := ⟨b1, _, none⟩) l1).trans g6,
            (h.cell (p := ⟨b2, _, none⟩) l2).trans k0, (h.cell (p := ⟨b2, _, none⟩) l2).trans k1, (h.cell (p := ⟨b2, _, none⟩) l2).trans k2, (h.cell (p := ⟨b2, _, none⟩) l2).trans k3, (h.cell (p := ⟨b2, _, none⟩) l2).trans k4, (h.cell (p := ⟨b2, _, none⟩) l2).trans k5, (h.cell (p := ⟨b2, _, none⟩) l2).trans k6, h⟩
        have HS := Lib.hid hS
        clear hS
        go_region_held3 (fun W' => W'.cell? ⟨b1, o1 + k * 7, none⟩ = some (.int .i64 x.kind) ∧ W'.cell? ⟨b1, o1 + k * 7 + 1, none⟩ = some (.string x.name) ∧ W'.cell? ⟨b1, o1 + k * 7 + 2, none⟩ = some (.string x.op) ∧ W'.cell? ⟨b1, o1 + k * 7 + 3, none⟩ = some (.slice pa x.parts.length pc) ∧ W'.cell? ⟨b1, o1 + k * 7 + 4, none⟩ = some (.int .i64 x.party) ∧ W'.cell? ⟨b1, o1 + k * 7 + 5, none⟩ = some (.int .i64 x.width) ∧ W'.cell? ⟨b1, o1 + k * 7 + 6, none⟩ = some (.int .i64 x.value) ∧ W'.cell? ⟨b2, o2 + k * 7, none⟩ = some (.int .i64 x.kind) ∧ W'.cell? ⟨b2, o2 + k * 7 + 1, none⟩ = some (.string x.name) ∧ W'.cell? ⟨b2, o2 + k * 7 + 2, none⟩ = some (.string x.op) ∧ W'.cell? ⟨b2, o2 + k * 7 + 3, none⟩ = some (.slice pb x.parts.length qc) ∧ W'.cell? ⟨b2, o2 + k * 7 + 4, none⟩ = some (.int .i64 x.party) ∧ W'.cell? ⟨b2, o2 + k * 7 + 5, none⟩ = some (.int .i64 x.width) ∧ W'.cell? ⟨b2, o2 + k * 7 + 6, none⟩ = some (.int .i64 x.value) ∧ Below wq.heap.size wq W') (exact HS.out _ (by repeat (first | exact Below.refl _ _ | apply below_drew | (refine Below.alloc ?_ (by simp <;> omega) _) | (refine Below.setCell ?_ (by show wq.heap.size ≤ _; simp <;> omega) _)))) (fail)
        all_goals go_wp2_with fail
        all_goals go_meet
        all_goals first
          | exact ⟨_, _, rfl, rfl, blk_alloc (heap_alloc_new wq _) _, alloc_new2 wq _ _, below_drew (((Below.refl _ _).alloc (Nat.le_refl _) _).alloc (by simp) _)⟩
          | exact ⟨_, _, rfl, rfl, alloc_new2 wq _ _, blk_alloc (heap_alloc_new wq _) _, below_drew (((Below.refl _ _).alloc (Nat.le_refl _) _).alloc (by simp) _)⟩
      case rest =>
        obtain ⟨p, q, rfl, rfl, hp, hq, hbx⟩ := hcut
        obtain ⟨⟨c0, c1, c2, c3, c4, c5, c6⟩, -⟩ := seven_cells hp
        obtain ⟨⟨d0, d1, d2, d3, d4, d5, d6⟩, -⟩ := seven_cells hq
        clear g0 g1 g2 g3 g4 g5 g6 k0 k1 k2 k3 k4 k5 k6
        go_wp2_with fail
        refine (qTexts_same _ _ _ _ _ _ _ _ _ (hps.below hbx (by omega)) (hqs.below hbx (by omega)) (Nat.le_trans hB (Nat.le_trans hz hbx.size)) (Nat.le_trans hC (Nat.le_trans hz hbx.size))).mono ?_
        rintro e w3 ⟨rfl, hb3⟩
        go_wp2_with fail
        go_roundw
        case rel => exact ⟨k + 1, by omega, by go_num, (hbel.trans (hbx.mono hz)).trans (hb3.mono (Nat.le_trans hz hbx.size))⟩
        case measure => simp [intOf] <;> omega
    · obtain rfl : k = n := by omega
      go_wp2
      go_ret
      exact ⟨rfl, hbel⟩
end Go.Proofs.YtdlddkgmjpmenaaGreatDoor
