/-
  The language: sizes of programs in the laws.
-/
import Derived.Test.YtdlddkgmjpmenaaDoorLs1
import Derived.Test.YtdlddkgmjpmenaaDoorLi2
namespace Go.Proofs.YtdlddkgmjpmenaaDoor
open Go.RowKit
set_option linter.unusedVariables false
set_option linter.unusedSimpArgs false

set_option maxHeartbeats 2000000 in
theorem szStringS_any (w : World) (ao : Option Addr) (n c : Nat) (ss : List ByteArray) (left : Int) (ha : StrsArg w ao n ss) (h0 : 0 ≤ left) (h1 : left ≤ 1048576) :
    Calls Tryd.prog 16 #[.slice ao n c, .int .i64 left] w fun e w' => ∃ r : Int, e = .returned (.int .i64 r) ∧ r ≤ left ∧ -1 ≤ r ∧ (0 ≤ r → (n : Int) ≤ left - r) ∧ w = w' := by
  have hn := ha.2.1
  unfold maxLen at hn
  by_cases hlt : left < n
  · have hd : left - n < 0 := by omega
    go_enter Tryd.func16, Tryd.ntmps16
    go_wp2_with fail
    go_ret
    exact ⟨-1, rfl, by omega, by omega, by omega, rfl⟩
  have hd : ¬ left - n < 0 := by omega
  have hnn : n ≤ 1048576 := by omega
  go_enter Tryd.func16, Tryd.ntmps16
  go_wp2_with fail
  go_loop [1, 5] (fun l i => ∃ (k : Nat) (q : Int), k ≤ n ∧ i = .int .i64 k ∧ l = .int .i64 q ∧ 0 ≤ q ∧ q ≤ left - n) (fun _ i => n - (intOf i).toNat)
  case atStart => exact ⟨0, left - n, Nat.zero_le _, rfl, rfl, by omega, by omega⟩
  case round =>
    obtain ⟨k, q, hk, rfl, rfl, hq0, hq1⟩ := hrel
    by_cases hltk : k < n
    · obtain ⟨b1, o1, x, rfl, hb1, hx, hxs, hc1⟩ := ha.at hltk
      unfold maxLen at hxs
      clear hx
      by_cases hqx : q < x.size
      · have hd2 : q - x.size < 0 := by omega
        go_wp2
        go_ret
        exact ⟨-1, rfl, by omega, by omega, by omega, rfl⟩
      · have hd2 : ¬ q - x.size < 0 := by omega
        go_wp2
        go_round
        case rel => exact ⟨k + 1, q - x.size, by omega, by go_num, rfl, by omega, by omega⟩
        case measure => simp [intOf] <;> omega
    · obtain rfl : k = n := by omega
      go_wp2
      go_ret
      exact ⟨q, rfl, by omega, by omega, fun _ => by omega, rfl⟩
def okLine (l : Ln) : Prop := l.name.size ≤ 1048576 ∧ l.op.size ≤ 1048576 ∧ l.parts.length ≤ 1048576
set_option maxHeartbeats 4000000 in
set_option maxRecDepth 20000 in
theorem szLine_any (w : World) (pa : Option Addr) (pc : Nat) (l : Ln) (left : Int) (hps : StrsArg w pa l.parts.length l.parts) (hz : l.name.size ≤ maxLen ∧ l.op.size ≤ maxLen) (h0 : 0 ≤ left) (h1 : left ≤ 1048576) :
    Calls Tryd.prog 9 #[lineV l pa pc, .int .i64 left] w fun e w' => ∃ r : Int, e = .returned (.int .i64 r) ∧ r ≤ left ∧ -1 ≤ r ∧ (0 ≤ r → okLine l ∧ (l.parts.length : Int) ≤ left - r) ∧ Below w.heap.size w w' := by
  obtain ⟨hz1, hz2⟩ := hz
  unfold maxLen at hz1 hz2
  obtain ⟨W2, hW2⟩ : ∃ W2, W2 = w.alloc (.cells #[.int .i64 l.kind, .string l.name, .string l.op, .slice pa l.parts.length pc, .int .i64 l.party, .int .i64 l.width, .int .i64 l.value] 33) := ⟨_, rfl⟩
  have hal : Below w.heap.size w W2 := by rw [hW2]; exact (Below.refl _ _).alloc (Nat.le_refl _) _
  have hrow : W2.heap[w.heap.size]? = some (.cells #[.int .i64 l.kind, .string l.name, .string l.op, .slice pa l.parts.length pc, .int .i64 l.party, .int .i64 l.width, .int .i64 l.value] 33 (0, 0)) := by rw [hW2]; exact heap_alloc_new _ _
  have e1 := cell_of_row W2 w.heap.size 1 _ _ _ hrow
  have e2 := cell_of_row W2 w.heap.size 2 _ _ _ hrow
  have e3 := cell_of_row W2 w.heap.size 3 _ _ _ hrow
  simp at e1 e2 e3
  have HW2 := Lib.hid hW2
  clear hW2 hrow
  have HP := Lib.hid (hps.below hal)
  unfold lineV
  by_cases q1 : left < l.name.size
  · have hd : left - l.name.size < 0 := by omega
    go_enter Tryd.func9, Tryd.ntmps9
    go_wp2_with (rw [← HW2.out])
    go_ret
    exact ⟨-1, rfl, by omega, by omega, by omega, hal⟩
  have hd : ¬ left - l.name.size < 0 := by omega
  by_cases q2 : left - l.name.size < l.op.size
  · have hd2 : left - l.name.size - l.op.size < 0 := by omega
    go_enter Tryd.func9, Tryd.ntmps9
    go_wp2_with (rw [← HW2.out])
    go_ret
    exact ⟨-1, rfl, by omega, by omega, by omega, hal⟩
  have hd2 : ¬ left - l.name.size - l.op.size < 0 := by omega
  obtain ⟨q, hq⟩ : ∃ q, q = left - l.name.size - l.op.size := ⟨_, rfl⟩
  have HQ := Lib.hid hq
  have g0 : 0 ≤ q := by omega
  have g1 : q ≤ 1048576 := by omega
  clear hq
  go_enter Tryd.func9, Tryd.ntmps9
  go_wp2_with (rw [← HW2.out])
  rw [← HQ.out]
  refine (szStringS_any _ _ _ _ _ _ HP.out g0 g1).mono ?_
  rintro e w' ⟨r, rfl, hr1, hr2, hr3, rfl⟩
  have HR := Lib.hid hr3
  clear hr3
  by_cases hr : r < 0
  · go_wp2_with fail
    go_ret
    exact ⟨-1, rfl, by omega, by omega, by omega, hal⟩
  · have hnr : ¬ r < 0 := hr
    go_wp2_with fail
    go_ret
    exact ⟨r, rfl, by have := HQ.out; omega, by omega, fun _ => by have h1 := HQ.out; have h2 := HR.out (by omega); exact ⟨⟨by omega, by omega, by omega⟩, by omega⟩, hal⟩
def partsSum (ls : List Ln) : Nat := (ls.map fun l => l.parts.length).foldl (· + ·) 0
theorem partsSum_step {ls : List Ln} {k : Nat} {x : Ln} (h : ls[k]? = some x) : partsSum (ls.take (k + 1)) = partsSum (ls.take k) + x.parts.length := by
  unfold partsSum
  rw [List.take_add_one, h, List.map_append, List.foldl_append]
  rfl
theorem okS_snoc {ls : List Ln} {k : Nat} {x : Ln} (h : ls[k]? = some x) (hs : okS (ls.take k)) (hx : okLine x) : okS (ls.take (k + 1)) := by
  intro y hy
  rw [List.take_add_one, h, List.mem_append] at hy
  rcases hy with hy | hy
  · exact hs y hy
  · simp at hy; subst hy; exact hx
set_option maxHeartbeats 4000000 in
set_option maxRecDepth 20000 in
theorem szLineS_any (w : World) (ao : Option Addr) (n c : Nat) (ls : List Ln) (left : Int) (ha : LnsArg w ao n ls) (h0 : 0 ≤ left) (h1 : left ≤ 1048576) :
    Calls Tryd.prog 4 #[.slice ao n c, .int .i64 left] w fun e w' => ∃ r : Int, e = .returned (.int .i64 r) ∧ r ≤ left ∧ (0 ≤ r → okS ls ∧ (n : Int) + partsSum ls ≤ left) ∧ Below w.heap.size w w' := by
  have hn := ha.2.1
  have hl := Lib.hid ha.1
  unfold maxLen at hn
  by_cases hlt : left < n
  · have hd : left - n < 0 := by omega
    go_enter Tryd.func4, Tryd.ntmps4
    go_wp2_with fail
    go_ret
    exact ⟨-1, rfl, by omega, by omega, Below.refl _ _⟩
  have hd : ¬ left - n < 0 := by omega
  have hnn : n ≤ 1048576 := by omega
  go_enter Tryd.func4, Tryd.ntmps4
  go_wp2_with fail
  go_loopw [1, 5] (fun l i wr => ∃ (k : Nat) (q : Int), k ≤ n ∧ i = .int .i64 k ∧ l = .int .i64 q ∧ 0 ≤ q ∧ q ≤ left - n - partsSum (ls.take k) ∧ okS (ls.take k) ∧ Below w.heap.size w wr) (fun _ i _ => n - (intOf i).toNat)
  case atStart => exact ⟨0, left - n, Nat.zero_le _, rfl, rfl, by omega, by simp [partsSum], by intro x hx; simp at hx, Below.refl _ _⟩
  case round =>
    obtain ⟨k, q, hk, rfl, rfl, hq0, hq1, hok, hbel⟩ := hrel
    by_cases hltk : k < n
    · obtain ⟨b1, o1, x, pa, pc, rfl, hb1, hx, hsz, hps, g0, g1, g2, g3, g4, g5, g6⟩ := (ha.below hbel).at hltk
      have HS := Lib.hid (partsSum_step hx)
      have HO := Lib.hid (fun hy => okS_snoc hx hok hy)
      obtain ⟨P, hP⟩ : ∃ P, P = partsSum (ls.take k) := ⟨_, rfl⟩
      rw [← hP] at hq1 HS
      clear hx hok hP
      go_wp2_with fail
      refine (szLine_any _ _ _ x _ hps hsz hq0 (by omega)).mono ?_
      rintro e w' ⟨r, rfl, hr1, hr2, hr3, hb3⟩
      have HR := Lib.hid hr3
      clear hr3
      by_cases hr : r < 0
      · go_wp2_with fail
        go_ret
        exact ⟨-1, rfl, by omega, by omega, hbel.trans (hb3.mono hbel.size)⟩
      · have hnr : ¬ r < 0 := hr
        go_wp2_with fail
        go_roundw
        case rel => exact ⟨k + 1, r, by omega, by go_num, rfl, by omega, by rw [HS.out]; have := (HR.out (by omega)).2; omega, HO.out (HR.out (by omega)).1, hbel.trans (hb3.mono hbel.size)⟩
        case measure => simp [intOf] <;> omega
    · obtain rfl : k = n := by omega
      rw [List.take_of_length_le (by rw [hl.out]; exact Nat.le_refl _)] at hq1 hok
      have HO := Lib.hid hok
      have HQ1 := Lib.hid hq1
      have hq2 : q ≤ left := by omega
      clear hok hq1
      go_wp2_with fail
      go_ret
      exact ⟨q, rfl, hq2, fun _ => ⟨HO.out, by have := HQ1.out; omega⟩, hbel⟩
end Go.Proofs.YtdlddkgmjpmenaaDoor
