/-
  Circuits of numbers: ConstantCircuit.
-/
import Derived.Test.YtbdccgodamkljaaMak2
namespace Go.Proofs.Ytbdccgodamkljaa
open Go.RowKit
set_option linter.unusedVariables false
set_option linter.unusedSimpArgs false

theorem stored4 {W : World} {rb : Nat} {a b c d : Value} {t : TypeId} (h : W.heap[rb]? = some (.cells #[a, b, c, d] t (0, 0))) (v0 v1 v2 v3 : Value) :
    let W4 := (((W.setCell ⟨rb, 0, none⟩ v0).setCell ⟨rb, 1, none⟩ v1).setCell ⟨rb, 2, none⟩ v2).setCell ⟨rb, 3, none⟩ v3
    (W4.cell? ⟨rb, 0, none⟩ = some v0 ∧ W4.cell? ⟨rb, 1, none⟩ = some v1 ∧ W4.cell? ⟨rb, 2, none⟩ = some v2 ∧ W4.cell? ⟨rb, 3, none⟩ = some v3) ∧ W.grownBy W4 (some rb) := by
  intro W4
  have q3 := blk_set (blk_set (blk_set (blk_set h 0 v0) 1 v1) 2 v2) 3 v3
  simp at q3
  have s0 := (blk_at q3 0).1
  have s1 := (blk_at q3 1).1
  have s2 := (blk_at q3 2).1
  have s3 := (blk_at q3 3).1
  simp at s0 s1 s2 s3
  refine ⟨⟨s0, s1, s2, s3⟩, ?_⟩
  have g0 := gset1 W rb 0 v0
  have g1 := gset1 (W.setCell ⟨rb, 0, none⟩ v0) rb 1 v1
  have g2 := gset1 ((W.setCell ⟨rb, 0, none⟩ v0).setCell ⟨rb, 1, none⟩ v1) rb 2 v2
  have g3 := gset1 (((W.setCell ⟨rb, 0, none⟩ v0).setCell ⟨rb, 1, none⟩ v1).setCell ⟨rb, 2, none⟩ v2) rb 3 v3
  have tr : ∀ {a b c : World}, a.grownBy b (some rb) → b.grownBy c (some rb) → a.grownBy c (some rb) := fun h k =>
    ⟨k.os.trans h.os, k.tape.trans h.tape, k.output.trans h.output, Nat.le_trans h.size k.size, fun q hq hne => (k.block q (Nat.lt_of_lt_of_le hq h.size) hne).trans (h.block q hq hne)⟩
  exact tr (tr (tr g0 g1) g2) g3
theorem valid_any (w : World) (i0 i1 : Int) (ga oa : Option Addr) (gn gc on oc : Nat) (gs os : List Int) (hg : Flat 3 w w.heap.size ga gn gs) (ho : Ints w w.heap.size oa on os) (hc : isCircF i0 i1 gs os = true) :
    Calls Try.prog 74 #[circV i0 i1 ga gn gc oa on oc] w fun e w' => e = .returned (.tuple #[circV i0 i1 ga gn gc oa on oc, .bool true]) ∧ Below w.heap.size w w' := by
  obtain ⟨W0, hW0⟩ : ∃ W0, W0 = w.alloc (.cells #[.int .i64 i0, .int .i64 i1, .slice ga gn gc, .slice oa on oc] 30) := ⟨_, rfl⟩
  have hb0 : Below w.heap.size w W0 := by rw [hW0]; exact (Below.refl _ _).alloc (Nat.le_refl _) _
  have hbx : BoxC W0 w.heap.size i0 i1 ga gn gc oa on oc := by rw [hW0]; exact boxC_new w i0 i1 ga gn gc oa on oc 30
  have hsz : w.heap.size < W0.heap.size := by rw [hW0]; simp
  have HW0 := Lib.hid hW0
  clear hW0
  obtain ⟨W1, hW1⟩ : ∃ W1, W1 = W0.alloc (.cells #[.int .i64 0, .int .i64 0, .slice none 0 0, .slice none 0 0] 30) := ⟨_, rfl⟩
  have hb1 : Below W0.heap.size W0 W1 := by rw [hW1]; exact (Below.refl _ _).alloc (Nat.le_refl _) _
  have hrow : W1.heap[W0.heap.size]? = some (.cells #[.int .i64 0, .int .i64 0, .slice none 0 0, .slice none 0 0] 30 (0, 0)) := by rw [hW1]; exact heap_alloc_new W0 _
  have hsz1 : W0.heap.size < W1.heap.size := by rw [hW1]; simp
  have HW1 := Lib.hid hW1
  clear hW1
  have hbw1 := hb0.trans (hb1.mono hb0.size)
  have hg1 := (hg.below hbw1 (Nat.le_refl _)).up hbw1.size
  have ho1 := (ho.below hbw1 (Nat.le_refl _)).up hbw1.size
  have hbx1 := Lib.hid (hbx.below hb1 hsz)
  obtain ⟨c0, c1, c2, c3⟩ := hbx1.out
  unfold circV
  go_enter Try.func74, Try.ntmps74
  go_wp2_with (first | rw [← HW0.out] | rw [← HW1.out])
  refine (impl_IsCircuit_any _ _ _ _ _ _ _ _ _ _ _ hg1 ho1).mono ?_
  rintro e w2 ⟨rfl, hb2⟩
  rw [hc]
  obtain ⟨d0, d1, d2, d3⟩ := hbx1.out.below hb2 (Nat.lt_trans hsz hsz1)
  have hrow2 : w2.heap[W0.heap.size]? = some (.cells #[.int .i64 0, .int .i64 0, .slice none 0 0, .slice none 0 0] 30 (0, 0)) := (hb2.block _ hsz1).trans hrow
  have e0 := (blk_at hrow2 0).1
  have e1 := (blk_at hrow2 1).1
  have e2 := (blk_at hrow2 2).1
  have e3 := (blk_at hrow2 3).1
  have f0 := (blk_at hrow2 0).2
  have f1 := (blk_at hrow2 1).2
  have f2 := (blk_at hrow2 2).2
  have f3 := (blk_at hrow2 3).2
  simp at e0 e1 e2 e3
  clear c0 c1 c2 c3
  go_wp2_with fail
  obtain ⟨⟨s0, s1, s2, s3⟩, g4⟩ := stored4 hrow2 (.int .i64 i0) (.int .i64 i1) (.slice ga gn gc) (.slice oa on oc)
  have hB2 := hbw1.trans (hb2.mono hbw1.size)
  have hB4 := hB2.grown g4 hB2.size (fun k hk => by simp at hk; have := hb0.size; omega)
  refine bodyPost_ret (v := .tuple #[circV i0 i1 ga gn gc oa on oc, .bool true]) (by simp [results, Try.results74, circV, go_sem, s0, s1, s2, s3]) rfl ⟨by rfl, hB4⟩
/-- What ConstantCircuit answers. -/
def constF (n wd : Int) : Int × Int × List Int × List Int × Bool := if (inB wd 1 16 && inB n 0 (2 ^ wd.toNat - 1)) = true then (0, 0, [3, 0, 0, 2, 0, 0], constL 1 (btOfL n.toNat wd.toNat), true) else (0, 0, [], [], false)
theorem const_valid (n wd : Nat) (h : wd ≤ 16) : isCircF 0 0 [3, 0, 0, 2, 0, 0] (constL 1 (btOfL n wd)) = true := by
  have hl : (constL 1 (btOfL n wd)).length = wd := by rw [constL, List.length_map, btOfL_length]
  have h2 : okG (gts [3, 0, 0, 2, 0, 0]) (0 + 0) = true := by decide
  have h3 : allIn 0 (0 + 0 + ((gts [3, 0, 0, 2, 0, 0]).length : Int) - 1) (constL 1 (btOfL n wd)) = true := by
    rw [allIn_iff]
    intro x hx
    rw [constL, List.mem_map] at hx
    obtain ⟨b, hb, rfl⟩ := hx
    have := allIn_iff.1 (btOfL_bits n wd) b hb
    have e : ((gts [3, 0, 0, 2, 0, 0]).length : Int) = 2 := by decide
    rw [e]
    omega
  unfold isCircF
  rw [h2, h3, hl]
  simp [inB]
  omega
/-- The result of a maker that is through: its circuit as it stands, copied to block rb. -/
theorem made_end {w w2 w4 w5 : World} {rb mb : Nat} {i0 i1 : Int} {ga ao : Option Addr} {gn gc n c : Nat} {gs os : List Int} (hrb : w.heap.size ≤ rb) (hrm : rb < mb) (hm : Mk mb w2 mb i0 i1 ga gn gc gs) (ho : OwnI (mb + 1) w2 ao n c os) (hne : ∀ k l, rowOf ga gc = some k → rowOf ao c = some l → k ≠ l)
    (hB2 : Below w.heap.size w w2) (hb4 : Below (w2.setCell ⟨mb, 3, none⟩ (.slice ao n c)).heap.size (w2.setCell ⟨mb, 3, none⟩ (.slice ao n c)) w4) (g5 : w4.grownBy w5 (some rb)) :
    OwnCi w.heap.size w5 ga gn gc ao n c gs os ∧ Below w.heap.size w w5 := by
  obtain ⟨⟨h1, h2⟩, _, _, hown⟩ := hm
  have g3 := gset1 w2 mb 3 (.slice ao n c)
  have hown' := hown.other g3 (fun k l e1 e2 => by simp at e2; have := hown.rowLt k e1; omega)
  have ho' := ho.other g3 (fun k l e1 e2 => by simp at e2; have := ho.rowLt k e1; omega)
  have hown4 := hown'.below hb4 (Nat.le_refl _)
  have ho4 := ho'.below hb4 (Nat.le_refl _)
  have hown5 := hown4.other g5 (fun k l e1 e2 => by simp at e2; have := hown.rowLt k e1; omega)
  have ho5 := ho4.other g5 (fun k l e1 e2 => by simp at e2; have := ho.rowLt k e1; omega)
  have hB3 := hB2.grown g3 hB2.size (fun k hk => by simp at hk; omega)
  have hB4 := hB3.trans (hb4.mono hB3.size)
  exact ⟨⟨hown5.up (by omega), ho5.up (by omega), hne⟩, hB4.grown g5 hB4.size (fun k hk => by simp at hk; omega)⟩
def zeroObj (t : TypeId) : Obj := .cells #[.int .i64 0, .int .i64 0, .slice none 0 0, .slice none 0 0] t
theorem mk_new (w : World) (t : TypeId) : Mk w.heap.size (w.alloc (zeroObj t)) w.heap.size 0 0 none 0 0 [] := by
  have h := heap_alloc_new w (zeroObj t)
  refine ⟨⟨Nat.le_refl _, by simp⟩, ⟨(blk_at h 0).1, (blk_at h 1).1, (blk_at h 2).1, (blk_at h 3).1⟩, fun j => (blk_at h j).2, OwnF.nil _ _ _⟩
set_option maxRecDepth 20000 in
set_option maxHeartbeats 4000000 in
theorem impl_ConstantCircuit_any (w : World) (n wd : Int) : Calls Try.prog 30 #[.int .i64 n, .int .i64 wd] w (RetCB (constF n wd) w) := by
  obtain ⟨W0, hW0⟩ : ∃ W0, W0 = w.alloc (zeroObj 30) := ⟨_, rfl⟩
  have hb0 : Below w.heap.size w W0 := by rw [hW0]; exact (Below.refl _ _).alloc (Nat.le_refl _) _
  have hrow : W0.heap[w.heap.size]? = some (zeroObj 30) := by rw [hW0]; exact heap_alloc_new w _
  have hsz : w.heap.size < W0.heap.size := by rw [hW0]; simp
  have HW0 := Lib.hid hW0
  clear hW0
  have e0 := (blk_at hrow 0).1
  have e1 := (blk_at hrow 1).1
  have e2 := (blk_at hrow 2).1
  have e3 := (blk_at hrow 3).1
  have f0 := (blk_at hrow 0).2
  have f1 := (blk_at hrow 1).2
  have f2 := (blk_at hrow 2).2
  have f3 := (blk_at hrow 3).2
  simp at e0 e1 e2 e3
  unfold zeroObj at HW0
  have bad : ∀ W5, W0.grownBy W5 (some w.heap.size) → constF n wd = (0, 0, [], [], false) → OwnCi w.heap.size W5 none 0 0 none 0 0 (constF n wd).2.2.1 (constF n wd).2.2.2.1 ∧ Below w.heap.size w W5 := by
    intro W5 g5 hc
    rw [hc]
    exact ⟨⟨OwnF.nil _ _ _, OwnI.nil _ _ _, fun k l hk => by simp [rowOf] at hk⟩, hb0.grown g5 hb0.size (fun k hk => by simp at hk; omega)⟩
  cases hw : inB wd 1 16
  · have HC : Hid (constF n wd = (0, 0, [], [], false)) := by show _ = _; simp [constF, hw]
    go_enter Try.func30, Try.ntmps30
    go_wp2_with (first | rw [← HW0.out] | (go_at_call 56; refine (within_any _ _ _ _).mono ?_; rintro e w' ⟨rfl, rfl⟩; rw [hw]))
    obtain ⟨⟨s0, s1, s2, s3⟩, g4⟩ := stored4 hrow (.int .i64 0) (.int .i64 0) (.slice none 0 0) (.slice none 0 0)
    obtain ⟨E1, E2⟩ := bad _ g4 HC.out
    refine bodyPost_ret (v := .tuple #[circV 0 0 none 0 0 none 0 0, .bool false]) (by simp [results, Try.results30, circV, go_sem, s0, s1, s2, s3]) rfl ⟨_, _, _, _, _, _, by rw [HC.out], E1, E2⟩
  have hwd := inB_iff.1 hw
  obtain ⟨k, rfl⟩ := Int.eq_ofNat_of_zero_le (show 0 ≤ wd by omega)
  have hk16 : k ≤ 16 := by omega
  have HPW := Lib.hid (wrap_pow16m k hk16)
  have HW := Lib.hid hw
  have HWD := Lib.hid hwd
  clear hwd
  cases hn : inB n 0 (2 ^ k - 1)
  · have HC : Hid (constF n k = (0, 0, [], [], false)) := by show _ = _; simp [constF, hn]
    have HN := Lib.hid hn
    clear hn hw
    go_enter Try.func30, Try.ntmps30
    go_wp2_with (first | rw [← HW0.out] | (go_at_call 56; rw [HPW.out]; refine (within_any _ _ _ _).mono ?_; rintro e w' ⟨rfl, rfl⟩; rw [HN.out]) | (go_at_call 56; refine (within_any _ _ _ _).mono ?_; rintro e w' ⟨rfl, rfl⟩; rw [HW.out]))
    obtain ⟨⟨s0, s1, s2, s3⟩, g4⟩ := stored4 hrow (.int .i64 0) (.int .i64 0) (.slice none 0 0) (.slice none 0 0)
    obtain ⟨E1, E2⟩ := bad _ g4 HC.out
    refine bodyPost_ret (v := .tuple #[circV 0 0 none 0 0 none 0 0, .bool false]) (by simp [results, Try.results30, circV, go_sem, s0, s1, s2, s3]) rfl ⟨_, _, _, _, _, _, by rw [HC.out], E1, E2⟩
  have hnn := inB_iff.1 hn
  have hp16 := pow16 k hk16
  obtain ⟨v, rfl⟩ := Int.eq_ofNat_of_zero_le hnn.1
  have hv : v ≤ 65536 := by omega
  have HC : Hid (constF v k = (0, 0, [3, 0, 0, 2, 0, 0], constL 1 (btOfL v k), true)) := by show _ = _; simp [constF, hn, hw]
  have HN := Lib.hid hn
  clear hn hw hnn hp16 bad
  obtain ⟨W1, hW1⟩ : ∃ W1, W1 = W0.alloc (zeroObj 82) := ⟨_, rfl⟩
  have hb1 : Below W0.heap.size W0 W1 := by rw [hW1]; exact (Below.refl _ _).alloc (Nat.le_refl _) _
  have hmk : Mk W0.heap.size W1 W0.heap.size 0 0 none 0 0 [] := by rw [hW1]; exact mk_new _ _
  have HW1 := Lib.hid hW1
  clear hW1
  unfold zeroObj at HW1
  go_enter Try.func30, Try.ntmps30
  go_wp2_with (first | rw [← HW0.out] | rw [← HW1.out] | (go_at_call 56; rw [HPW.out]; refine (within_any _ _ _ _).mono ?_; rintro e w' ⟨rfl, rfl⟩; rw [HN.out]) | (go_at_call 56; refine (within_any _ _ _ _).mono ?_; rintro e w' ⟨rfl, rfl⟩; rw [HW.out]))
  refine (iConst_any _ _ _ _ _ _ _ _ v k _ hmk (by decide) (by decide) (by omega) (by omega) hk16).mono ?_
  rintro e w2 ⟨ao, n2, c2, ga, gc, rfl, ho2, hm2, hne2, hb2⟩
  rw [show (0 : Int) + 0 + ((0 : Nat) : Int) = 0 from rfl, show (0 : Int) + 1 = 1 from rfl] at ho2
  rw [show (0 : Int) + 0 + ((0 : Nat) : Int) = 0 from rfl, List.nil_append, Nat.zero_add] at hm2
  have HM2 := Lib.hid hm2
  obtain ⟨⟨h1, h2⟩, ⟨m0, m1, m2, m3⟩, mf, mown⟩ := hm2
  have mf3 := mf 3
  clear mf e0 e1 e2 e3 f0 f1 f2 f3
  have g3 := gset1 w2 W0.heap.size 3 (.slice ao n2 c2)
  have hF := (mown.other g3 (fun k l e1 e2 => by simp at e2; have := mown.rowLt k e1; omega)).flat
  have hI := (ho2.other g3 (fun k l e1 e2 => by simp at e2; have := ho2.rowLt k e1; omega)).ints
  go_wp2_with fail
  refine (valid_any _ _ _ _ _ _ _ _ _ _ _ hF hI (const_valid v k hk16)).mono ?_
  rintro e w4 ⟨rfl, hb4⟩
  have hrow4 : w4.heap[w.heap.size]? = some (zeroObj 30) := by
    rw [hb4.block _ (Nat.lt_of_lt_of_le (Nat.lt_of_lt_of_le hsz (Nat.le_of_lt h2)) g3.size), g3.block _ (Nat.lt_trans hsz h2) (by simp; omega), hb2.block _ hsz, hb1.block _ hsz, hrow]
  have e0 := (blk_at hrow4 0).1
  have e1 := (blk_at hrow4 1).1
  have e2 := (blk_at hrow4 2).1
  have e3 := (blk_at hrow4 3).1
  have f0 := (blk_at hrow4 0).2
  have f1 := (blk_at hrow4 1).2
  have f2 := (blk_at hrow4 2).2
  have f3 := (blk_at hrow4 3).2
  simp at e0 e1 e2 e3
  unfold circV
  go_wp2_with fail
  obtain ⟨⟨s0, s1, s2, s3⟩, g5⟩ := stored4 hrow4 (.int .i64 0) (.int .i64 0) (.slice ga 2 gc) (.slice ao n2 c2)
  obtain ⟨E1, E2⟩ := made_end (Nat.le_refl _) hsz HM2.out ho2 hne2 (hb0.trans ((hb1.trans hb2).mono hb0.size)) hb4 g5
  refine bodyPost_ret (v := .tuple #[circV 0 0 ga 2 gc ao n2 c2, .bool true]) (by simp [results, Try.results30, circV, go_sem, s0, s1, s2, s3]) rfl ⟨_, _, _, _, _, _, by rw [HC.out], by rw [HC.out]; exact E1, E2⟩
end Go.Proofs.Ytbdccgodamkljaa
