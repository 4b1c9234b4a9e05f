/-
  Circuits of numbers: the reference's ConstantCircuit.
-/
import Derived.Test.YtbdccgodamkljaaMak3
namespace Go.Proofs.Ytbdccgodamkljaa
open Go.RowKit
set_option linter.unusedVariables false
set_option linter.unusedSimpArgs false

theorem ciNew_any (w : World) (i0 i1 : Int) : Calls Try.prog 69 #[.int .i64 i0, .int .i64 i1] w fun e w' => e = .returned (.pointer (some ⟨w.heap.size, 0, none⟩)) ∧ Mk w.heap.size w' w.heap.size i0 i1 none 0 0 [] ∧ Below w.heap.size w w' := by
  have hb : Below w.heap.size w (w.alloc (.cells #[.int .i64 i0, .int .i64 i1, .slice none 0 0, .slice none 0 0] 79)) := (Below.refl _ _).alloc (Nat.le_refl _) _
  have hm : Mk w.heap.size (w.alloc (.cells #[.int .i64 i0, .int .i64 i1, .slice none 0 0, .slice none 0 0] 79)) w.heap.size i0 i1 none 0 0 [] := by
    have h := heap_alloc_new w (.cells #[.int .i64 i0, .int .i64 i1, .slice none 0 0, .slice none 0 0] 79)
    exact ⟨⟨Nat.le_refl _, by simp⟩, ⟨(blk_at h 0).1, (blk_at h 1).1, (blk_at h 2).1, (blk_at h 3).1⟩, fun j => (blk_at h j).2, OwnF.nil _ _ _⟩
  go_enter Try.func69, Try.ntmps69
  go_wp2_with fail
  go_ret
  exact ⟨rfl, hm, hb⟩
theorem constF_word (n wd : Int) : constF n wd = if (decide (1 ≤ wd) && btWordB n wd) = true then (0, 0, [3, 0, 0, 2, 0, 0], constL 1 (btOfL n.toNat wd.toNat), true) else (0, 0, [], [], false) := by
  have : (inB wd 1 16 && inB n 0 (2 ^ wd.toNat - 1)) = (decide (1 ≤ wd) && btWordB n wd) := by
    unfold btWordB
    cases hn : inB n 0 (2 ^ wd.toNat - 1)
    · simp [hn]
    · by_cases h : 1 ≤ wd
      · have e : inB wd 1 16 = inB wd 0 16 := by
          cases h2 : inB wd 0 16
          · rw [inB_no] at h2 ⊢; omega
          · rw [inB_iff] at h2 ⊢; omega
        simp [h, e, hn]
      · have e : inB wd 1 16 = false := by rw [inB_no]; omega
        simp [h, e]
  unfold constF
  rw [this]
set_option maxRecDepth 20000 in
set_option maxHeartbeats 4000000 in
theorem spec_ConstantCircuit_any (w : World) (n wd : Int) : Calls Try.prog 29 #[.int .i64 n, .int .i64 wd] w (RetCB (constF n wd) w) := by
  obtain ⟨W0, hW0⟩ : ∃ W0, W0 = w.alloc (zeroObj 30) := ⟨_, rfl⟩
  have hb0 : Below w.heap.size w W0 := by rw [hW0]; exact (Below.refl _ _).alloc (Nat.le_refl _) _
  have hrow : W0.heap[w.heap.size]? = some (zeroObj 30) := by rw [hW0]; exact heap_alloc_new w _
  have hsz : w.heap.size < W0.heap.size := by rw [hW0]; simp
  have HW0 := Lib.hid hW0
  clear hW0
  have e0 := (blk_at hrow 0).1
  have e1 := (blk_at hrow 1).1
  have e2 := (blk_at hrow 2).1
  have e3 := (blk_at hrow 3).1
  have f0 := (blk_at hrow 0).2
  have f1 := (blk_at hrow 1).2
  have f2 := (blk_at hrow 2).2
  have f3 := (blk_at hrow 3).2
  simp at e0 e1 e2 e3
  unfold zeroObj at HW0
  have bad : ∀ W5, W0.grownBy W5 (some w.heap.size) → constF n wd = (0, 0, [], [], false) → OwnCi w.heap.size W5 none 0 0 none 0 0 (constF n wd).2.2.1 (constF n wd).2.2.2.1 ∧ Below w.heap.size w W5 := by
    intro W5 g5 hc
    rw [hc]
    exact ⟨⟨OwnF.nil _ _ _, OwnI.nil _ _ _, fun k l hk => by simp [rowOf] at hk⟩, hb0.grown g5 hb0.size (fun k hk => by simp at hk; omega)⟩
  by_cases hw1 : wd < 1
  · have HC : Hid (constF n wd = (0, 0, [], [], false)) := by show _ = _; rw [constF_word, if_neg (by simp; omega)]
    have hw1' : decide (wd < 1) = true := by simp [hw1]
    go_enter Try.func29, Try.ntmps29
    go_wp2_with (first | rw [← HW0.out])
    obtain ⟨⟨s0, s1, s2, s3⟩, g4⟩ := stored4 hrow (.int .i64 0) (.int .i64 0) (.slice none 0 0) (.slice none 0 0)
    obtain ⟨E1, E2⟩ := bad _ g4 HC.out
    refine bodyPost_ret (v := .tuple #[circV 0 0 none 0 0 none 0 0, .bool false]) (by simp [results, Try.results29, circV, go_sem, s0, s1, s2, s3]) rfl ⟨_, _, _, _, _, _, by rw [HC.out], E1, E2⟩
  have hw1' : decide (wd < 1) = false := by simp; omega
  cases hb : btWordB n wd
  · have HC : Hid (constF n wd = (0, 0, [], [], false)) := by show _ = _; rw [constF_word, hb, if_neg (by simp)]
    have HB := Lib.hid hb
    clear hb
    go_enter Try.func29, Try.ntmps29
    go_wp2_with (first | rw [← HW0.out] | (go_at_call 77; refine (btWord_any _ _ _).mono ?_; rintro e w' ⟨rfl, rfl⟩; rw [HB.out]))
    obtain ⟨⟨s0, s1, s2, s3⟩, g4⟩ := stored4 hrow (.int .i64 0) (.int .i64 0) (.slice none 0 0) (.slice none 0 0)
    obtain ⟨E1, E2⟩ := bad _ g4 HC.out
    refine bodyPost_ret (v := .tuple #[circV 0 0 none 0 0 none 0 0, .bool false]) (by simp [results, Try.results29, circV, go_sem, s0, s1, s2, s3]) rfl ⟨_, _, _, _, _, _, by rw [HC.out], E1, E2⟩
  have hb2 := hb
  simp only [btWordB, Bool.and_eq_true, inB_iff] at hb2
  obtain ⟨k, rfl⟩ := Int.eq_ofNat_of_zero_le (show 0 ≤ wd by omega)
  have hk16 : k ≤ 16 := by omega
  have hp16 := pow16 k hk16
  rw [Int.toNat_natCast] at hb2
  obtain ⟨v, rfl⟩ := Int.eq_ofNat_of_zero_le hb2.2.1
  have hv : v ≤ 65536 := by omega
  have HC : Hid (constF v k = (0, 0, [3, 0, 0, 2, 0, 0], constL 1 (btOfL v k), true)) := by show _ = _; rw [constF_word, hb, if_pos (by simp; omega)]; rfl
  have HB := Lib.hid hb
  clear hb hb2 hp16 bad
  go_enter Try.func29, Try.ntmps29
  go_wp2_with (first | rw [← HW0.out] | (go_at_call 77; refine (btWord_any _ _ _).mono ?_; rintro e w' ⟨rfl, rfl⟩; rw [HB.out]))
  refine (ciNew_any _ _ _).mono ?_
  rintro e W1 ⟨rfl, hmk, hb1⟩
  go_wp2_with fail
  refine (sConst_any _ _ _ _ _ _ _ _ v k _ hmk (by decide) (by decide) (by omega) (by omega) hk16).mono ?_
  rintro e w2 ⟨ao, n2, c2, ga, gc, rfl, ho2, hm2, hne2, hb2⟩
  rw [show (0 : Int) + 0 + ((0 : Nat) : Int) = 0 from rfl, show (0 : Int) + 1 = 1 from rfl] at ho2
  rw [show (0 : Int) + 0 + ((0 : Nat) : Int) = 0 from rfl, List.nil_append, Nat.zero_add] at hm2
  have HM2 := Lib.hid hm2
  obtain ⟨⟨h1, h2⟩, ⟨m0, m1, m2, m3⟩, mf, mown⟩ := hm2
  have mf3 := mf 3
  clear mf e0 e1 e2 e3 f0 f1 f2 f3
  have g3 := gset1 w2 W0.heap.size 3 (.slice ao n2 c2)
  have hrow4 : (w2.setCell ⟨W0.heap.size, 3, none⟩ (.slice ao n2 c2)).heap[w.heap.size]? = some (zeroObj 30) := by
    rw [g3.block _ (Nat.lt_trans hsz h2) (by simp; omega), hb2.block _ hsz, hb1.block _ hsz, hrow]
  have e0 : (w2.setCell ⟨W0.heap.size, 3, none⟩ (.slice ao n2 c2)).cell? ⟨w.heap.size, 0, none⟩ = some (.int .i64 0) := (blk_at hrow4 0).1
  have e1 : (w2.setCell ⟨W0.heap.size, 3, none⟩ (.slice ao n2 c2)).cell? ⟨w.heap.size, 1, none⟩ = some (.int .i64 0) := (blk_at hrow4 1).1
  have e2 : (w2.setCell ⟨W0.heap.size, 3, none⟩ (.slice ao n2 c2)).cell? ⟨w.heap.size, 2, none⟩ = some (.slice none 0 0) := (blk_at hrow4 2).1
  have e3 : (w2.setCell ⟨W0.heap.size, 3, none⟩ (.slice ao n2 c2)).cell? ⟨w.heap.size, 3, none⟩ = some (.slice none 0 0) := (blk_at hrow4 3).1
  have f0 := (blk_at hrow4 0).2
  have f1 := (blk_at hrow4 1).2
  have f2 := (blk_at hrow4 2).2
  have f3 := (blk_at hrow4 3).2
  go_wp2_with fail
  obtain ⟨⟨s0, s1, s2, s3⟩, g5⟩ := stored4 hrow4 (.int .i64 0) (.int .i64 0) (.slice ga 2 gc) (.slice ao n2 c2)
  obtain ⟨E1, E2⟩ := made_end (Nat.le_refl _) hsz HM2.out ho2 hne2 (hb0.trans ((hb1.trans hb2).mono hb0.size)) (Below.refl _ _) g5
  refine bodyPost_ret (v := .tuple #[circV 0 0 ga 2 gc ao n2 c2, .bool true]) (by simp [results, Try.results29, circV, go_sem, s0, s1, s2, s3]) rfl ⟨_, _, _, _, _, _, by rw [HC.out], by rw [HC.out]; exact E1, E2⟩
end Go.Proofs.Ytbdccgodamkljaa
