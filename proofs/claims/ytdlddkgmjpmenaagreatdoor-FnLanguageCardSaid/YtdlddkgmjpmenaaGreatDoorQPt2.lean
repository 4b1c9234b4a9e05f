/-
  Texts of programs: the reference's text.
-/
import Derived.Test.YtdlddkgmjpmenaaGreatDoorHPt
import Derived.Lib.QuietBelow
namespace Go.Proofs.YtdlddkgmjpmenaaGreatDoor
open Go.RowKit Go.Sort
set_option linter.unusedVariables false
set_option linter.unusedSimpArgs false

theorem l1NumI_any (n : Int) (h0 : 0 ≤ n) (h1 : n ≤ 9999) (w : World) : Calls Tryz.prog 71 #[.int .i64 n] w (RetT (numT n) w) := by
  obtain ⟨m, rfl⟩ := Int.eq_ofNat_of_zero_le h0
  exact l1Num_any 3 m w (by omega) (by omega)
theorem good_len {ls : List Ln} (hg : laGoodF ls = true) : ls.length ≤ 30 := by
  unfold laGoodF at hg
  simp only [Bool.and_eq_true, decide_eq_true_eq] at hg
  exact hg.1
theorem strs_cells {w : World} {B : Nat} {ao : Option Addr} {n : Nat} {ss : List ByteArray} (h : Strs w B ao n ss) (hn : 0 < n) : ∃ b off, ao = some ⟨b, off, none⟩ ∧ b < B ∧ ∀ (j : Nat) (x : ByteArray), ss[j]? = some x → w.cell? ⟨b, off + j, none⟩ = some (.string x) := by
  obtain ⟨h1, _, h⟩ := h
  rcases h with h | ⟨b, off, rfl, hlt, h⟩
  · have : ss = [] := by simpa using h
    subst this
    simp at h1
    omega
  · exact ⟨b, off, rfl, hlt, fun j x hx => h j _ (by simp [hx])⟩
theorem one_of {α : Type} {xs : List α} (h : xs.length = 1) : ∃ a, xs = [a] := by
  match xs, h with
  | [a], _ => exact ⟨a, rfl⟩
theorem two_of {α : Type} {xs : List α} (h : xs.length = 2) : ∃ a b, xs = [a, b] := by
  match xs, h with
  | [a, b], _ => exact ⟨a, b, rfl⟩
theorem three_of {α : Type} {xs : List α} (h : xs.length = 3) : ∃ a b c, xs = [a, b, c] := by
  match xs, h with
  | [a, b, c], _ => exact ⟨a, b, c, rfl⟩
set_option maxRecDepth 20000 in
set_option maxHeartbeats 8000000 in
theorem laTextX_any (w : World) (ao : Option Addr) (n c : Nat) (ls : List Ln) (h : Lns w w.heap.size ao n ls) (hn30 : n ≤ 30) (hg : ∀ x ∈ ls, TxtOk x) (hs : okS ls) :
    Calls Tryz.prog 40 #[.slice ao n c] w (RetT (textB ls) w) := by
  have hl := h.1
  have HG := Lib.hid hg
  have HS := Lib.hid hs
  have HL := Lib.hid hl
  clear hg hs hl
  go_enter Tryz.func40, Tryz.ntmps40
  go_wp2_with fail
  go_loopw [3, 8] (fun s3 s8 wr => ∃ (k : Nat) (t : ByteArray), k ≤ n ∧ s3 = .string t ∧ s8 = .int .i64 k ∧ Hid (t = textB (ls.take k)) ∧ t.size ≤ 20000000 * k ∧ Below w.heap.size w wr) (fun _ s8 _ => n - (intOf s8).toNat)
  case atStart => exact ⟨0, _, Nat.zero_le _, rfl, rfl, rfl, Nat.le_refl _, Below.refl _ _⟩
  case round =>
    obtain ⟨k, t, hk, rfl, rfl, ht, hsz, hbel⟩ := hrel
    by_cases hlt : k < n
    · obtain ⟨b1, o1, x, pa, pc, rfl, hb1, hx, hps, g0, g1, g2, g3, g4, g5, g6⟩ := (h.below hbel (Nat.le_refl _)).at hlt
      obtain ⟨⟨q1, q2, q3, q4⟩, qp⟩ := HG.out x (List.mem_of_getElem? hx)
      have qs := HS.out x (List.mem_of_getElem? hx)
      have HT : Hid (textB (ls.take (k + 1)) = t ++ lineT x) := by show _ = _; rw [textB_step hx, ht.out]
      obtain ⟨W1, hW1⟩ : ∃ W1, W1 = wr.alloc (lineObj x pa pc) := ⟨_, rfl⟩
      have hb2 : Below wr.heap.size wr W1 := by rw [hW1]; exact (Below.refl _ _).alloc (Nat.le_refl _) _
      have hbx : BoxL W1 wr.heap.size x pa pc := by rw [hW1]; exact boxL_new _ _ _ _
      have hz1 : wr.heap.size < W1.heap.size := by rw [hW1]; simp
      have hps1 := hps.below hb2 hbel.size
      have hbw := hbel.trans (hb2.mono hbel.size)
      have HW1 := Lib.hid hW1
      obtain ⟨K, nm, op, ps, py, wd, vl⟩ := x
      unfold lineObj at HW1
      dsimp only at q1 q2 q3 q4 qs qp g0 g1 g2 g3 g4 g5 g6 hps1 HW1
      obtain ⟨c0, c1, c2, c3, c4, c5, c6⟩ := hbx
      dsimp only at c0 c1 c2 c3 c4 c5 c6
      obtain ⟨z1, z2, z3⟩ := qs
      have HQP := Lib.hid qp
      clear hW1 hps hx qp
      by_cases k1 : K = 1
      · subst k1
        -- <A>
        obtain ⟨⟨y1, y2⟩, ⟨y3, y4⟩⟩ := q2 rfl
        have e4 := cell_regrown c4
        have e1 := cell_regrown c1
        have e5 := cell_regrown c5
        have cN : ∀ (v : Int) (d : Nat) (os : Array Obj), 0 ≤ v → v ≤ 9999 → Calls Tryz.prog 71 #[.int .i64 v] (grow (redrawn W1 d) os) fun e w'' => e = .returned (.string (numT v)) ∧ ∃ p : Regrown, w'' = grow (redrawn W1 p.d) p.os := fun v d os h0 h1 => Calls.regrown_of (l1NumI_any v h0 h1 _)
        have sz_py := numT_size py
        have sz_wd := numT_size wd
        have HTT : Hid (t ++ (ByteArray.mk #[105, 110, 112, 117, 116, 32] ++ numT py ++ ByteArray.mk #[32] ++ nm ++ ByteArray.mk #[32] ++ numT wd) ++ ByteArray.mk #[10] = textB (ls.take (k + 1))) := by
          show _ = _
          rw [HT.out, ByteArray.append_assoc]
          rfl
        have n0 : ¬ 9223372036854775807 < 6 + (numT py).size := by omega
        have n1 : ¬ 9223372036854775807 < 6 + (numT py).size + 1 := by omega
        have n2 : ¬ 9223372036854775807 < 6 + (numT py).size + 1 + nm.size := by omega
        have n3 : ¬ 9223372036854775807 < 6 + (numT py).size + 1 + nm.size + 1 := by omega
        have n4 : ¬ 9223372036854775807 < 6 + (numT py).size + 1 + nm.size + 1 + (numT wd).size := by omega
        have n5 : ¬ 9223372036854775807 < t.size + (6 + (numT py).size + 1 + nm.size + 1 + (numT wd).size) := by omega
        have n6 : ¬ 9223372036854775807 < t.size + (6 + (numT py).size + 1 + nm.size + 1 + (numT wd).size) + 1 := by omega
        have hnz : t.size + (6 + (numT py).size + 1 + nm.size + 1 + (numT wd).size) + 1 ≤ 20000000 * (k + 1) := by omega
        have HNZ := Lib.hid hnz
        clear hnz sz_py sz_wd
        go_wp2_with (rw [← HW1.out])
        refine wp_region_quiet_below (by kernel_rfl) (by kernel_rfl) ?_
        repeat (quiet_step (exact cN _ _ _ (by omega) (by omega)))
        refine wpQuiet_nil ?_
        intro _ hw'
        obtain ⟨⟨dq, osq⟩, hw''⟩ := hw'
        subst hw''
        have hbq := below_regrown W1 dq osq
        clear e4 e1 e5 cN c0 c1 c2 c3 c4 c5 c6
        generalize grow (redrawn W1 dq) osq = W5 at *
        have hB5 := hbw.trans (hbq.mono hbw.size)
        go_wp2_with fail
        go_roundw
        case rel => exact ⟨k + 1, _, by omega, rfl, by go_num, HTT, by have := HNZ.out; simp only [ByteArray.size_append]; exact this, hB5⟩
        case measure => simp [intOf] <;> omega
        -- </A>
      by_cases k2 : K = 2
      · subst k2
        -- <A>
        obtain ⟨⟨y1, y2⟩, ⟨y3, y4⟩⟩ := q3 rfl
        have e1 := cell_regrown c1
        have e5 := cell_regrown c5
        have e6 := cell_regrown c6
        have cN : ∀ (v : Int) (d : Nat) (os : Array Obj), 0 ≤ v → v ≤ 9999 → Calls Tryz.prog 71 #[.int .i64 v] (grow (redrawn W1 d) os) fun e w'' => e = .returned (.string (numT v)) ∧ ∃ p : Regrown, w'' = grow (redrawn W1 p.d) p.os := fun v d os h0 h1 => Calls.regrown_of (l1NumI_any v h0 h1 _)
        have sz_wd := numT_size wd
        have sz_vl := numT_size vl
        have HTT : Hid (t ++ (ByteArray.mk #[99, 111, 110, 115, 116, 32] ++ nm ++ ByteArray.mk #[32] ++ numT wd ++ ByteArray.mk #[32] ++ numT vl) ++ ByteArray.mk #[10] = textB (ls.take (k + 1))) := by
          show _ = _
          rw [HT.out, ByteArray.append_assoc]
          rfl
        have n0 : ¬ 9223372036854775807 < 6 + nm.size := by omega
        have n1 : ¬ 9223372036854775807 < 6 + nm.size + 1 := by omega
        have n2 : ¬ 9223372036854775807 < 6 + nm.size + 1 + (numT wd).size := by omega
        have n3 : ¬ 9223372036854775807 < 6 + nm.size + 1 + (numT wd).size + 1 := by omega
        have n4 : ¬ 9223372036854775807 < 6 + nm.size + 1 + (numT wd).size + 1 + (numT vl).size := by omega
        have n5 : ¬ 9223372036854775807 < t.size + (6 + nm.size + 1 + (numT wd).size + 1 + (numT vl).size) := by omega
        have n6 : ¬ 9223372036854775807 < t.size + (6 + nm.size + 1 + (numT wd).size + 1 + (numT vl).size) + 1 := by omega
        have hnz : t.size + (6 + nm.size + 1 + (numT wd).size + 1 + (numT vl).size) + 1 ≤ 20000000 * (k + 1) := by omega
        have HNZ := Lib.hid hnz
        clear hnz sz_wd sz_vl
        go_wp2_with (rw [← HW1.out])
        refine wp_region_quiet_below (by kernel_rfl) (by kernel_rfl) ?_
        repeat (quiet_step (exact cN _ _ _ (by omega) (by omega)))
        refine wpQuiet_nil ?_
        intro _ hw'
        obtain ⟨⟨dq, osq⟩, hw''⟩ := hw'
        subst hw''
        have hbq := below_regrown W1 dq osq
        clear e1 e5 e6 cN c0 c1 c2 c3 c4 c5 c6
        generalize grow (redrawn W1 dq) osq = W5 at *
        have hB5 := hbw.trans (hbq.mono hbw.size)
        go_wp2_with fail
        go_roundw
        case rel => exact ⟨k + 1, _, by omega, rfl, by go_num, HTT, by have := HNZ.out; simp only [ByteArray.size_append]; exact this, hB5⟩
        case measure => simp [intOf] <;> omega
        -- </A>
      by_cases k3 : K = 3
      · subst k3
        -- <A>
        have q0 : ps.length = 2 := by have : (ps.length : Int) = 2 := q1; omega
        obtain ⟨p0, p1, rfl⟩ := two_of q0
        obtain ⟨bp, fp, rfl, hbp, hpc⟩ := strs_cells hps1 (by simp)
        have u0 : W1.cell? ⟨bp, fp, none⟩ = some (.string p0) := by simpa using hpc 0 p0 rfl
        have v0 := HQP.out p0 (by simp)
        have u1 : W1.cell? ⟨bp, fp + 1, none⟩ = some (.string p1) := by simpa using hpc 1 p1 rfl
        have v1 := HQP.out p1 (by simp)
        clear hpc q0
        simp only [List.length_cons, List.length_nil, Nat.zero_add, Nat.reduceAdd] at c3 HW1
        have e1 := cell_regrown c1
        have e2 := cell_regrown c2
        have e3 := cell_regrown c3
        have w0 := cell_regrown u0
        have w1 := cell_regrown u1
        have HTT : Hid (t ++ (ByteArray.mk #[108, 101, 116, 32] ++ nm ++ ByteArray.mk #[32] ++ p0 ++ ByteArray.mk #[32] ++ op ++ ByteArray.mk #[32] ++ p1) ++ ByteArray.mk #[10] = textB (ls.take (k + 1))) := by
          show _ = _
          rw [HT.out, ByteArray.append_assoc]
          rfl
        have n0 : ¬ 9223372036854775807 < 4 + nm.size := by omega
        have n1 : ¬ 9223372036854775807 < 4 + nm.size + 1 := by omega
        have n2 : ¬ 9223372036854775807 < 4 + nm.size + 1 + p0.size := by omega
        have n3 : ¬ 9223372036854775807 < 4 + nm.size + 1 + p0.size + 1 := by omega
        have n4 : ¬ 9223372036854775807 < 4 + nm.size + 1 + p0.size + 1 + op.size := by omega
        have n5 : ¬ 9223372036854775807 < 4 + nm.size + 1 + p0.size + 1 + op.size + 1 := by omega
        have n6 : ¬ 9223372036854775807 < 4 + nm.size + 1 + p0.size + 1 + op.size + 1 + p1.size := by omega
        have n7 : ¬ 9223372036854775807 < t.size + (4 + nm.size + 1 + p0.size + 1 + op.size + 1 + p1.size) := by omega
        have n8 : ¬ 9223372036854775807 < t.size + (4 + nm.size + 1 + p0.size + 1 + op.size + 1 + p1.size) + 1 := by omega
        have hnz : t.size + (4 + nm.size + 1 + p0.size + 1 + op.size + 1 + p1.size) + 1 ≤ 20000000 * (k + 1) := by omega
        have HNZ := Lib.hid hnz
        clear hnz
        go_wp2_with (rw [← HW1.out])
        refine wp_region_quiet_below (by kernel_rfl) (by kernel_rfl) ?_
        repeat (quiet_step (fail))
        refine wpQuiet_nil ?_
        intro _ hw'
        obtain ⟨⟨dq, osq⟩, hw''⟩ := hw'
        subst hw''
        have hbq := below_regrown W1 dq osq
        clear e1 e2 e3 w0 u0 w1 u1 c0 c1 c2 c3 c4 c5 c6
        generalize grow (redrawn W1 dq) osq = W5 at *
        have hB5 := hbw.trans (hbq.mono hbw.size)
        go_wp2_with fail
        go_roundw
        case rel => exact ⟨k + 1, _, by omega, rfl, by go_num, HTT, by have := HNZ.out; simp only [ByteArray.size_append]; exact this, hB5⟩
        case measure => simp [intOf] <;> omega
        -- </A>
      by_cases k4 : K = 4
      · subst k4
        -- <A>
        have q0 : ps.length = 1 := by have : (ps.length : Int) = 1 := q1; omega
        obtain ⟨p0, rfl⟩ := one_of q0
        obtain ⟨bp, fp, rfl, hbp, hpc⟩ := strs_cells hps1 (by simp)
        have u0 : W1.cell? ⟨bp, fp, none⟩ = some (.string p0) := by simpa using hpc 0 p0 rfl
        have v0 := HQP.out p0 (by simp)
        clear hpc q0
        simp only [List.length_cons, List.length_nil, Nat.zero_add, Nat.reduceAdd] at c3 HW1
        have e1 := cell_regrown c1
        have e3 := cell_regrown c3
        have w0 := cell_regrown u0
        have HTT : Hid (t ++ (ByteArray.mk #[110, 111, 116, 32] ++ nm ++ ByteArray.mk #[32] ++ p0) ++ ByteArray.mk #[10] = textB (ls.take (k + 1))) := by
          show _ = _
          rw [HT.out, ByteArray.append_assoc]
          rfl
        have n0 : ¬ 9223372036854775807 < 4 + nm.size := by omega
        have n1 : ¬ 9223372036854775807 < 4 + nm.size + 1 := by omega
        have n2 : ¬ 9223372036854775807 < 4 + nm.size + 1 + p0.size := by omega
        have n3 : ¬ 9223372036854775807 < t.size + (4 + nm.size + 1 + p0.size) := by omega
        have n4 : ¬ 9223372036854775807 < t.size + (4 + nm.size + 1 + p0.size) + 1 := by omega
        have hnz : t.size + (4 + nm.size + 1 + p0.size) + 1 ≤ 20000000 * (k + 1) := by omega
        have HNZ := Lib.hid hnz
        clear hnz
        go_wp2_with (rw [← HW1.out])
        refine wp_region_quiet_below (by kernel_rfl) (by kernel_rfl) ?_
        repeat (quiet_step (fail))
        refine wpQuiet_nil ?_
        intro _ hw'
        obtain ⟨⟨dq, osq⟩, hw''⟩ := hw'
        subst hw''
        have hbq := below_regrown W1 dq osq
        clear e1 e3 w0 u0 c0 c1 c2 c3 c4 c5 c6
        generalize grow (redrawn W1 dq) osq = W5 at *
        have hB5 := hbw.trans (hbq.mono hbw.size)
        go_wp2_with fail
        go_roundw
        case rel => exact ⟨k + 1, _, by omega, rfl, by go_num, HTT, by have := HNZ.out; simp only [ByteArray.size_append]; exact this, hB5⟩
        case measure => simp [intOf] <;> omega
        -- </A>
      by_cases k5 : K = 5
      · subst k5
        -- <A>
        have q0 : ps.length = 3 := by have : (ps.length : Int) = 3 := q1; omega
        obtain ⟨p0, p1, p2, rfl⟩ := three_of q0
        obtain ⟨bp, fp, rfl, hbp, hpc⟩ := strs_cells hps1 (by simp)
        have u0 : W1.cell? ⟨bp, fp, none⟩ = some (.string p0) := by simpa using hpc 0 p0 rfl
        have v0 := HQP.out p0 (by simp)
        have u1 : W1.cell? ⟨bp, fp + 1, none⟩ = some (.string p1) := by simpa using hpc 1 p1 rfl
        have v1 := HQP.out p1 (by simp)
        have u2 : W1.cell? ⟨bp, fp + 2, none⟩ = some (.string p2) := by simpa using hpc 2 p2 rfl
        have v2 := HQP.out p2 (by simp)
        clear hpc q0
        simp only [List.length_cons, List.length_nil, Nat.zero_add, Nat.reduceAdd] at c3 HW1
        have e1 := cell_regrown c1
        have e3 := cell_regrown c3
        have w0 := cell_regrown u0
        have w1 := cell_regrown u1
        have w2 := cell_regrown u2
        have HTT : Hid (t ++ (ByteArray.mk #[112, 105, 99, 107, 32] ++ nm ++ ByteArray.mk #[32] ++ p0 ++ ByteArray.mk #[32] ++ p1 ++ ByteArray.mk #[32] ++ p2) ++ ByteArray.mk #[10] = textB (ls.take (k + 1))) := by
          show _ = _
          rw [HT.out, ByteArray.append_assoc]
          rfl
        have n0 : ¬ 9223372036854775807 < 5 + nm.size := by omega
        have n1 : ¬ 9223372036854775807 < 5 + nm.size + 1 := by omega
        have n2 : ¬ 9223372036854775807 < 5 + nm.size + 1 + p0.size := by omega
        have n3 : ¬ 9223372036854775807 < 5 + nm.size + 1 + p0.size + 1 := by omega
        have n4 : ¬ 9223372036854775807 < 5 + nm.size + 1 + p0.size + 1 + p1.size := by omega
        have n5 : ¬ 9223372036854775807 < 5 + nm.size + 1 + p0.size + 1 + p1.size + 1 := by omega
        have n6 : ¬ 9223372036854775807 < 5 + nm.size + 1 + p0.size + 1 + p1.size + 1 + p2.size := by omega
        have n7 : ¬ 9223372036854775807 < t.size + (5 + nm.size + 1 + p0.size + 1 + p1.size + 1 + p2.size) := by omega
        have n8 : ¬ 9223372036854775807 < t.size + (5 + nm.size + 1 + p0.size + 1 + p1.size + 1 + p2.size) + 1 := by omega
        have hnz : t.size + (5 + nm.size + 1 + p0.size + 1 + p1.size + 1 + p2.size) + 1 ≤ 20000000 * (k + 1) := by omega
        have HNZ := Lib.hid hnz
        clear hnz
        go_wp2_with (rw [← HW1.out])
        refine wp_region_quiet_below (by kernel_rfl) (by kernel_rfl) ?_
        repeat (quiet_step (fail))
        refine wpQuiet_nil ?_
        intro _ hw'
        obtain ⟨⟨dq, osq⟩, hw''⟩ := hw'
        subst hw''
        have hbq := below_regrown W1 dq osq
        clear e1 e3 w0 u0 w1 u1 w2 u2 c0 c1 c2 c3 c4 c5 c6
        generalize grow (redrawn W1 dq) osq = W5 at *
        have hB5 := hbw.trans (hbq.mono hbw.size)
        go_wp2_with fail
        go_roundw
        case rel => exact ⟨k + 1, _, by omega, rfl, by go_num, HTT, by have := HNZ.out; simp only [ByteArray.size_append]; exact this, hB5⟩
        case measure => simp [intOf] <;> omega
        -- </A>
      · obtain rfl : K = 6 := by omega
        -- <A>
        have q0 : ps.length = 1 := by have : (ps.length : Int) = 1 := q1; omega
        obtain ⟨p0, rfl⟩ := one_of q0
        obtain ⟨bp, fp, rfl, hbp, hpc⟩ := strs_cells hps1 (by simp)
        have u0 : W1.cell? ⟨bp, fp, none⟩ = some (.string p0) := by simpa using hpc 0 p0 rfl
        have v0 := HQP.out p0 (by simp)
        clear hpc q0
        simp only [List.length_cons, List.length_nil, Nat.zero_add, Nat.reduceAdd] at c3 HW1
        have HTT : Hid (t ++ (ByteArray.mk #[111, 117, 116, 32] ++ p0) ++ ByteArray.mk #[10] = textB (ls.take (k + 1))) := by
          show _ = _
          rw [HT.out, ByteArray.append_assoc]
          rfl
        have n0 : ¬ 9223372036854775807 < 4 + p0.size := by omega
        have n1 : ¬ 9223372036854775807 < t.size + (4 + p0.size) := by omega
        have n2 : ¬ 9223372036854775807 < t.size + (4 + p0.size) + 1 := by omega
        have hnz : t.size + (4 + p0.size) + 1 ≤ 20000000 * (k + 1) := by omega
        have HNZ := Lib.hid hnz
        clear hnz
        have hB5 := hbw
        go_wp2_with (rw [← HW1.out])
        go_roundw
        case rel => exact ⟨k + 1, _, by omega, rfl, by go_num, HTT, by have := HNZ.out; simp only [ByteArray.size_append]; exact this, hB5⟩
        case measure => simp [intOf] <;> omega
        -- </A>
    · obtain rfl : k = n := by omega
      have HE : Hid (t = textB ls) := by show _ = _; rw [ht.out, ← HL.out, List.take_length]
      go_wp2_with fail
      go_ret
      exact ⟨ret_str HE.out, hbel⟩
theorem laText_any (w : World) (ao : Option Addr) (n c : Nat) (ls : List Ln) (h : Lns w w.heap.size ao n ls) (hg : laGoodF ls = true) (hs : okS ls) :
    Calls Tryz.prog 40 #[.slice ao n c] w (RetT (textB ls) w) :=
  laTextX_any w ao n c ls h (by have := good_len hg; have := h.1; omega) (good_txt hg hs) hs
end Go.Proofs.YtdlddkgmjpmenaaGreatDoor
