/-
  Draws: what the draw functions of the digests hand over.
-/
import Derived.Test.YtilkgidilhgjeaaDr4
import Derived.Test.YtilkgidilhgjeaaLh1
import Derived.Test.YtilkgidilhgjeaaCd1
namespace Go.Proofs.Ytilkgidilhgjeaa
open Go.RowKit
set_option linter.unusedVariables false
set_option linter.unusedSimpArgs false

theorem DrawDigestOf_any (w : World) (ao : Option Addr) (n cap : Nat) (bs : List Int) (h : Bytes w w.heap.size ao n bs) :
    Calls Try.prog 38 #[.slice ao n cap] w (RetD 100 w) := by
  obtain ⟨W, hW, hc, hb, hlt⟩ := cur_new w ao n cap bs h
  have HW := Lib.hid hW
  clear hW
  go_enter Try.func38, Try.ntmps38
  go_wp2_with (rw [← HW.out])
  refine (words_any _ _ _ hc (by omega)).mono ?_
  rintro e w2 ⟨xs, bo, k, cap2, rfl, ho, hk, hc2, hg⟩
  go_wp2_with fail
  go_ret
  exact ⟨_, _, _, _, rfl, ho.ints, hk, below_cur hb hg⟩
/-- Two numbers, whatever they are. -/
def RetN2 (w : World) (e : Ending) (w' : World) : Prop := ∃ r q : Int, e = .returned (.tuple #[.int .i64 r, .int .i64 q]) ∧ Below w.heap.size w w'
set_option maxHeartbeats 1000000 in
set_option maxRecDepth 20000 in
theorem DrawCountDigests_any (w : World) (ao : Option Addr) (n cap : Nat) (bs : List Int) (h : Bytes w w.heap.size ao n bs) :
    Calls Try.prog 44 #[.slice ao n cap] w (RetN2 w) := by
  obtain ⟨W, hW, hc, hb, hlt⟩ := cur_new w ao n cap bs h
  have HW := Lib.hid hW
  clear hW
  go_enter Try.func44, Try.ntmps44
  go_wp2_with (rw [← HW.out])
  refine (pick_any _ _ _ hc (by omega) 60000 (by omega) (by omega)).mono ?_
  rintro e w1 ⟨q, hq0, hq1, rfl, hc1, hg1⟩
  go_wp2_with fail
  refine (among_new _ _ _ hc1 (by omega) [0, 5, -1000000000, 1000000000, 999999950, q] (by simp) (by simp)).mono ?_
  rintro e w2 ⟨s, hs, rfl, hc2, hg2⟩
  clear hs
  go_wp2_with fail
  refine (among_new _ _ _ hc2 (by omega) [0, 1, 20, 60, 200, 201, -1] (by simp) (by simp)).mono ?_
  rintro e w3 ⟨r, hr, rfl, hc3, hg3⟩
  clear hr
  go_wp2_with fail
  go_ret2
  exact ⟨_, _, rfl, below_cur hb (gtrans (gtrans hg1 hg2) hg3)⟩
/-- A text is drawn. -/
def DrewT (N b m : Nat) (w : World) (e : Ending) (w' : World) : Prop := ∃ s : ByteArray, e = .returned (.string s) ∧ s.size ≤ N ∧ Cur w' b m ∧ w.grownBy w' (some b)
theorem of_new (w : World) (b m : Nat) (hc : Cur w b m) (hm : m + 2 ≤ 1000000000000) (ss : List ByteArray) (h1 : 1 ≤ ss.length) (h2 : ss.length ≤ 1000) (N : Nat) (hN : ∀ s ∈ ss, s.size ≤ N) :
    Calls Try.prog 93 #[.pointer (some ⟨b, 0, none⟩), .slice (some ⟨w.heap.size, 0, none⟩) ss.length ss.length] (w.alloc (.cells (ss.map Value.string).toArray 9)) (DrewT N b (m + 2) w) := by
  have hbl := hc.lt
  have hcell := cellsAt_new w (ss.map Value.string) 9
  have hcW := hc.below ((Below.refl w.heap.size w).alloc (Nat.le_refl _) (.cells (ss.map Value.string).toArray 9)) hbl
  have hG := @grownBy_old w
  have hzW : (w.alloc (.cells (ss.map Value.string).toArray 9)).heap.size = w.heap.size + 1 := by simp
  have HG : Hid (∀ w', (w.alloc (.cells (ss.map Value.string).toArray 9)).grownBy w' (some b) → w.grownBy w' (some b)) := fun w' h => grownBy_old h
  clear hG
  generalize w.alloc (.cells (ss.map Value.string).toArray 9) = W at *
  obtain ⟨n, hn⟩ : ∃ n, n = ss.length := ⟨_, rfl⟩
  rw [← hn] at h1 h2 ⊢
  have HN := Lib.hid hn
  have HNN := Lib.hid hN
  clear hn hN
  go_enter Try.func93, Try.ntmps93
  go_wp2_with fail
  refine (pick_any _ _ _ hcW (by omega) n (by omega) (by omega)).mono ?_
  rintro e w1 ⟨r, hr0, hr1, rfl, hc1, hg1⟩
  obtain ⟨k, rfl⟩ := Int.eq_ofNat_of_zero_le hr0
  have hk : k < n := by omega
  obtain ⟨s, hs⟩ : ∃ s, ss[k]? = some s := ⟨_, List.getElem?_eq_getElem (by rw [← HN.out]; exact hk)⟩
  have q : w1.cell? ⟨w.heap.size, k, none⟩ = some (.string s) := by
    refine (hg1.cell_far ⟨w.heap.size, k, none⟩ (by show w.heap.size < W.heap.size; omega) (fun e => by simp at e; omega)).trans ?_
    rcases hcell with h0 | ⟨b1, o1, e, _, hcc⟩
    · simp at h0; rw [h0] at hs; simp at hs
    · simp only [Option.some.injEq, Addr.mk.injEq] at e
      obtain ⟨rfl, rfl, _⟩ := e
      have := hcc k (.string s) (by rw [List.getElem?_map, hs]; rfl)
      simpa using this
  have hsz := HNN.out s (List.mem_of_getElem? hs)
  clear hs hcell
  go_wp2_with fail
  go_ret
  exact ⟨_, rfl, hsz, hc1, HG.out _ hg1⟩
def RetT (N : Nat) (w : World) (e : Ending) (w' : World) : Prop := ∃ s : ByteArray, e = .returned (.string s) ∧ s.size ≤ N ∧ Below w.heap.size w w'
set_option maxHeartbeats 1000000 in
set_option maxRecDepth 20000 in
theorem DrawTextDigest_any (w : World) (ao : Option Addr) (n cap : Nat) (bs : List Int) (h : Bytes w w.heap.size ao n bs) :
    Calls Try.prog 45 #[.slice ao n cap] w (RetT 10 w) := by
  obtain ⟨W, hW, hc, hb, hlt⟩ := cur_new w ao n cap bs h
  have HW := Lib.hid hW
  clear hW
  go_enter Try.func45, Try.ntmps45
  go_wp2_with (rw [← HW.out])
  refine (of_new _ _ _ hc (by omega) [⟨#[]⟩, ⟨#[97]⟩, ⟨#[97, 110, 100, 32, 48, 32, 49]⟩, ⟨#[0]⟩, ⟨#[255, 255]⟩, ⟨#[48, 49, 49, 48, 32, 49]⟩] (by simp) (by simp) 10 (by decide)).mono ?_
  rintro e w1 ⟨s, rfl, hs, hc1, hg1⟩
  go_wp2_with fail
  go_ret
  exact ⟨_, rfl, hs, below_cur hb hg1⟩
/-- Four numbers, whatever they are. -/
def RetN4 (w : World) (e : Ending) (w' : World) : Prop := ∃ k t a b : Int, e = .returned (.tuple #[.int .i64 k, .int .i64 t, .int .i64 a, .int .i64 b]) ∧ Below w.heap.size w w'
set_option maxHeartbeats 4000000 in
set_option maxRecDepth 20000 in
theorem DrawLabelFor_any (w : World) (ao : Option Addr) (n cap : Nat) (bs : List Int) (h : Bytes w w.heap.size ao n bs) :
    Calls Try.prog 41 #[.slice ao n cap] w (RetN4 w) := by
  obtain ⟨W, hW, hc, hb, hlt⟩ := cur_new w ao n cap bs h
  have HW := Lib.hid hW
  clear hW
  go_enter Try.func41, Try.ntmps41
  go_wp2_with (rw [← HW.out])
  refine (pick_any _ _ _ hc (by omega) 60000 (by omega) (by omega)).mono ?_
  rintro e w1 ⟨q, hq0, hq1, rfl, hc1, hg1⟩
  go_wp2_with fail
  refine (pick_any _ _ _ hc1 (by omega) 99 (by omega) (by omega)).mono ?_
  rintro e w2 ⟨q2, hq20, hq21, rfl, hc2, hg2⟩
  go_wp2_with fail
  refine (among_new _ _ _ hc2 (by omega) [0, 1, -1000000000, 1000000001, q2] (by simp) (by simp)).mono ?_
  rintro e w3 ⟨s, hs, rfl, hc3, hg3⟩
  clear hs
  go_wp2_with fail
  refine (pick_any _ _ _ hc3 (by omega) 60000 (by omega) (by omega)).mono ?_
  rintro e w4 ⟨q4, hq40, hq41, rfl, hc4, hg4⟩
  go_wp2_with fail
  refine (pick_any _ _ _ hc4 (by omega) 60000 (by omega) (by omega)).mono ?_
  rintro e w5 ⟨q5, hq50, hq51, rfl, hc5, hg5⟩
  have hG := gtrans (gtrans (gtrans (gtrans hg1 hg2) hg3) hg4) hg5
  have hz5 := hG.size
  have hl5 := hc5.lt
  obtain ⟨w6, hw6⟩ : ∃ w6, w6 = w5.alloc (.cells #[.int .i64 q, .int .i64 s, .int .i64 q4, .int .i64 q5] 3) := ⟨_, rfl⟩
  have hb6 : Below w5.heap.size w5 w6 := by rw [hw6]; exact (Below.refl _ _).alloc (Nat.le_refl _) _
  have hz6 : w6.heap.size = w5.heap.size + 1 := by rw [hw6]; simp
  have ho6 : OwnI w5.heap.size w6 (some ⟨w5.heap.size, 0, none⟩) 4 4 [q, s, q4, q5] := by
    rw [hw6]
    exact ⟨rfl, by decide, .inr ⟨_, rfl, ⟨rfl, .inr ⟨w5.heap.size, 4, _, rfl, Nat.le_refl _, heap_alloc_new w5 _, Nat.le_refl _, by decide, rfl, rfl⟩⟩⟩⟩
  have HW6 := Lib.hid hw6
  have hc6 := hc5.below hb6 hl5
  have hG6 := gbelow hG hb6
  clear hw6
  obtain ⟨L, hL⟩ : ∃ L, L = w5.heap.size := ⟨_, rfl⟩
  go_wp2_with (rw [← HW6.out])
  refine (one_any _ _ _ hc6 (by omega) 12 (by omega) (by omega)).mono ?_
  rintro e w7 ⟨v, rfl, hc7, hg7⟩
  have ho7 := ho6.other hg7 (fun p l hp hl => by have := (ho6.rowLt p hp).1; simp at hl; omega)
  have hG7 := gtrans hG6 hg7
  have hz7 := hg7.size
  cases v
  · obtain ⟨x0, _, c0⟩ := ho7.ints.at' (k := 0) (by decide)
    obtain ⟨x1, _, c1⟩ := ho7.ints.at' (k := 1) (by decide)
    obtain ⟨x2, _, c2⟩ := ho7.ints.at' (k := 2) (by decide)
    obtain ⟨x3, _, c3⟩ := ho7.ints.at' (k := 3) (by decide)
    simp only [Nat.zero_add] at c0 c1 c2 c3
    go_wp2_with fail
    go_quiet (fail)
    go_wp2_with fail
    exact bodyPost_ret (v := .tuple #[.int .i64 x0, .int .i64 x1, .int .i64 x2, .int .i64 x3]) (by simp [results, Try.results41, go_sem]) rfl ⟨_, _, _, _, rfl, below_cur hb (gdrewN hG7 _)⟩
  · go_wp2_with fail
    refine (pick_any _ _ _ hc7 (by omega) 4 (by omega) (by omega)).mono ?_
    rintro e w8 ⟨i, hi0, hi1, rfl, hc8, hg8⟩
    have ho8 := ho7.other hg8 (fun p l hp hl => by have := (ho7.rowLt p hp).1; simp at hl; omega)
    have hz8 := hg8.size
    go_wp2_with fail
    refine (among_new _ _ _ hc8 (by omega) [-1000000000, 1000000000, 1000000001, -1000000001] (by simp) (by simp)).mono ?_
    rintro e w9 ⟨u, hu, rfl, hc9, hg9⟩
    clear hu
    have ho9 := ho8.other hg9 (fun p l hp hl => by have := (ho8.rowLt p hp).1; simp at hl; omega)
    have hz9 := hg9.size
    obtain ⟨i, rfl⟩ := Int.eq_ofNat_of_zero_le hi0
    have hi4 : i < 4 := by omega
    obtain ⟨ho10, hg10, hf10⟩ := ho9.set hi4 u
    obtain ⟨xi, _, ci⟩ := ho9.ints.at' hi4
    simp only [Nat.zero_add] at ci
    obtain ⟨x0, _, c0⟩ := ho10.ints.at' (k := 0) (by decide)
    obtain ⟨x1, _, c1⟩ := ho10.ints.at' (k := 1) (by decide)
    obtain ⟨x2, _, c2⟩ := ho10.ints.at' (k := 2) (by decide)
    obtain ⟨x3, _, c3⟩ := ho10.ints.at' (k := 3) (by decide)
    simp only [Nat.zero_add] at c0 c1 c2 c3
    have hG9 := gtrans (gtrans hG7 hg8) hg9
    have hB10 : Below w.heap.size w (w9.setCell ⟨w5.heap.size, i, none⟩ (.int .i64 u)) := (below_cur hb hG9).grown hg10 (by omega) (fun p hp => by have := (ho9.rowLt p hp).1; omega)
    have HB10 := Lib.hid hB10
    clear hB10
    go_wp2_with fail
    go_quiet (fail)
    go_wp2_with fail
    exact bodyPost_ret (v := .tuple #[.int .i64 x0, .int .i64 x1, .int .i64 x2, .int .i64 x3]) (by simp [results, Try.results41, go_sem]) rfl ⟨_, _, _, _, rfl, bdrewN HB10.out _⟩
end Go.Proofs.Ytilkgidilhgjeaa
