/-
  Counting circuits: the reference's way.
-/
import Derived.Test.YtbdccgodamkljaaMak5
namespace Go.Proofs.Ytbdccgodamkljaa
open Go.RowKit
set_option linter.unusedVariables false
set_option linter.unusedSimpArgs false

def rangeL (k : Nat) : List Int := (List.range k).map fun (i : Nat) => (i : Int)
theorem rangeL_step (k : Nat) : rangeL (k + 1) = rangeL k ++ [(k : Int)] := by simp [rangeL, List.range_succ]
theorem rangeL_get {n k : Nat} (h : k < n) : (rangeL n)[k]? = some (k : Int) := by simp [rangeL, h]
set_option maxHeartbeats 1600000 in
theorem gdRange_any (w : World) (n : Nat) (hn : n ≤ 1000) : Calls Try.prog 71 #[.int .i64 0, .int .i64 n] w (RetI (rangeL n) w) := by
  go_enter Try.func71, Try.ntmps71
  go_wp2_with fail
  go_loopw [5, 6] (fun out i wr => ∃ (k : Nat) (co : Option Addr) (cap : Nat), k ≤ n ∧ i = .int .i64 k ∧ out = .slice co k cap ∧ OwnI w.heap.size wr co k cap (rangeL k) ∧ Below w.heap.size w wr) (fun _ i _ => n - (intOf i).toNat)
  case atStart => exact ⟨0, _, _, Nat.zero_le _, rfl, rfl, OwnI.nil _ _ _, Below.refl _ _⟩
  case round =>
    obtain ⟨k, co, cap, hk, rfl, rfl, hout, hbel⟩ := hrel
    have HS := Lib.hid (rangeL_step k)
    by_cases hlt : k < n
    · go_wp2_with (at_builtin; refine wpList_append_i rfl _ _ rfl w.heap.size _ _ _ _ _ rfl (by first | rfl | (simp; rfl)) hout (by omega) hbel.size ?_; intro ao' cap' w4 hown4 hg4)
      have hbr4 := below_append hbel hout.2.2 hg4 hbel.size
      go_roundw
      case rel => exact ⟨k + 1, ao', cap', by omega, by go_num, rfl, by rw [HS.out]; exact hown4, hbr4⟩
      case measure => simp [intOf] <;> omega
    · obtain rfl : k = n := by omega
      go_wp2_with fail
      go_ret
      exact ⟨_, _, _, rfl, hout, hbel⟩
theorem ints_grewC {B C mb : Nat} {w w' : World} {i0 i1 : Int} {ga ao : Option Addr} {gn gc n cap : Nat} {gs xs : List Int} (hC : mb + 1 ≤ C) (h : OwnI C w ao n cap xs) (hm : Mk B w mb i0 i1 ga gn gc gs) (g : Grew w w' ga gc mb) : OwnI C w' ao n cap xs := by
  obtain ⟨u, g1, g2⟩ := g
  have h1 := h.other g1 (fun p q hp hq => rows_apart h hm.2.2.2 p q hp hq)
  exact h1.other g2 (fun p q hp hq => by simp at hq; have := h.rowLt p hp; omega)
theorem own_cap {B : Nat} {w : World} {ao : Option Addr} {n cap : Nat} {xs : List Int} (h : OwnI B w ao n cap xs) : n ≤ cap := h.capLe
theorem row_eq {g cap p : Nat} (h : rowOf (some ⟨g, 0, none⟩) cap = some p) : p = g := by
  unfold rowOf at h
  split at h <;> simp_all
/-- A sum back. -/
def RetSum (n : Nat) (B : Nat) (w : World) (mb : Nat) (e : Ending) (w' : World) : Prop :=
  ∃ so L sc ga gc, e = .returned (.slice so L sc) ∧ OwnI (mb + 1) w' so L sc (cntOut n (n - 1)).2.2 ∧ Mk B w' mb n 0 ga (cntOut n (n - 1)).1 gc (cntOut n (n - 1)).2.1 ∧ Below B w w'
set_option maxRecDepth 20000 in
set_option maxHeartbeats 8000000 in
theorem gdCount_any (w : World) (B mb n bc : Nat) (bo ga0 : Option Addr) (gc0 : Nat) (hn1 : 1 ≤ n) (hn16 : n ≤ 16) (hm0 : Mk B w mb n 0 ga0 0 gc0 []) (hb0 : OwnI (mb + 1) w bo n bc (rangeL n)) :
    Calls Try.prog 70 #[.pointer (some ⟨mb, 0, none⟩), .slice bo n bc] w (RetSum n B w mb) := by
  have HR0 : Hid (inB (n : Int) 0 20 = true) := by show _ = _; rw [inB_iff]; omega
  have hcap := own_cap hb0
  obtain ⟨bg, rfl, hbgB, hbgl⟩ := own_blk2 hb0 (by omega)
  have y00 := own_cell2 hb0 (rangeL_get (n := n) (k := 0) (by omega))
  have y0 : w.cell? ⟨bg, 0, none⟩ = some (.int .i64 0) := by simpa using y00
  clear y00
  obtain ⟨W2, hW2⟩ : ∃ W2, W2 = w.alloc (.cells #[.int .i64 0] 3) := ⟨_, rfl⟩
  have hb2 : Below w.heap.size w W2 := by rw [hW2]; exact (Below.refl _ _).alloc (Nat.le_refl _) _
  have hsum : OwnI (mb + 1) W2 (some ⟨w.heap.size, 0, none⟩) 1 1 [0] := by
    rw [hW2]
    exact ⟨rfl, by decide, .inr ⟨_, rfl, rfl, .inr ⟨w.heap.size, 1, #[.int .i64 0], rfl, by have := hm0.1.2; omega, heap_alloc_new w _, Nat.le_refl _, by decide, rfl, rfl⟩⟩⟩
  have HW2 := Lib.hid hW2
  clear hW2
  have hm2 := hm0.below hb2 (Nat.le_refl _)
  have hbits2 := hb0.below hb2 (Nat.le_refl _)
  have hmbl := hm0.1
  have hB2 : Below B w W2 := hb2.mono (by omega)
  by_cases hone : n = 1
  · subst hone
    have hcs : bc = 1 ∨ 2 ≤ bc := by omega
    rcases hcs with rfl | hcs
    · go_enter Try.func70, Try.ntmps70
      go_wp2_with (first | rw [← HW2.out])
      go_loop [5, 18] (fun u v => u = .slice (some ⟨w.heap.size, 0, none⟩) 1 1 ∧ v = .int .i64 0) (fun _ _ => 0)
      case atStart => exact ⟨rfl, rfl⟩
      case round =>
        obtain ⟨rfl, rfl⟩ := hrel
        go_wp2_with fail
        go_ret
        exact ⟨_, _, _, _, _, rfl, hsum, hm2, hB2⟩
    · have hc1 : ¬ bc = 1 := by omega
      have hc2 : ¬ bc - 1 = 0 := by omega
      have hc3 : 0 < bc - 1 := by omega
      have hc4 : 1 < bc := by omega
      go_enter Try.func70, Try.ntmps70
      go_wp2_with (first | rw [← HW2.out])
      go_loop [5, 18] (fun u v => u = .slice (some ⟨w.heap.size, 0, none⟩) 1 1 ∧ v = .int .i64 0) (fun _ _ => 0)
      case atStart => exact ⟨rfl, rfl⟩
      case round =>
        obtain ⟨rfl, rfl⟩ := hrel
        go_wp2_with fail
        go_ret
        exact ⟨_, _, _, _, _, rfl, hsum, hm2, hB2⟩
  have hc1 : ¬ bc = 1 := by omega
  have hc2 : ¬ bc - 1 = 0 := by omega
  have hc3 : 0 < bc - 1 := by omega
  have hc4 : 1 < bc := by omega
  have hc5 : 1 ≤ n := hn1
  go_enter Try.func70, Try.ntmps70
  go_wp2_with (first | rw [← HW2.out])
  obtain ⟨m, hmm⟩ : ∃ m, m = n - 1 := ⟨_, rfl⟩
  have hnm1 : m < n := by omega
  have hnm2 : n ≤ m + 1 := by omega
  have HMM := Lib.hid hmm
  rw [← hmm]
  clear hmm hone hc1 hc2 hc3 hc5
  go_loopw [5, 18] (fun v5 v18 wr => ∃ (k : Nat) (so : Option Addr) (sc : Nat) (ga : Option Addr) (gc : Nat), k ≤ m ∧ v18 = .int .i64 k ∧ v5 = .slice so (cntOut n k).2.2.length sc ∧ OwnI (mb + 1) wr so (cntOut n k).2.2.length sc (cntOut n k).2.2 ∧ OwnI (mb + 1) wr (some ⟨bg, 0, none⟩) n bc (rangeL n) ∧ Mk B wr mb n 0 ga (cntOut n k).1 gc (cntOut n k).2.1 ∧ Below B w wr) (fun _ v18 _ => m - (intOf v18).toNat)
  case atStart => exact ⟨0, _, _, _, _, Nat.zero_le _, rfl, rfl, hsum, hbits2, hm2, hB2⟩
  case round =>
    obtain ⟨k, so, sc, ga, gc, hk, rfl, rfl, hs, hbt, hm, hbel⟩ := hrel
    obtain ⟨q1, q2, q3, q4⟩ := cntOut_facts n k (by omega)
    have q5 := pow_le_5 (Nat.le_trans q2 (by omega))
    by_cases hlt : k < m
    · have HNX : Hid (cntOut n (k + 1) = ((cntIn n (cntOut n k).1 (cntOut n k).2.1 [] ((k : Int) + 1) (cntOut n k).2.2).1, (cntIn n (cntOut n k).1 (cntOut n k).2.1 [] ((k : Int) + 1) (cntOut n k).2.2).2.1, if 2 ^ (cntOut n k).2.2.length ≤ k + 2 then (cntIn n (cntOut n k).1 (cntOut n k).2.1 [] ((k : Int) + 1) (cntOut n k).2.2).2.2.1 ++ [(cntIn n (cntOut n k).1 (cntOut n k).2.1 [] ((k : Int) + 1) (cntOut n k).2.2).2.2.2] else (cntIn n (cntOut n k).1 (cntOut n k).2.1 [] ((k : Int) + 1) (cntOut n k).2.2).2.2.1)) := rfl
      generalize cntOut n k = st at *
      obtain ⟨gn, gs, sum⟩ := st
      dsimp only at q1 q2 q3 q4 q5 hs hm HNX ⊢
      obtain ⟨r, hr⟩ : ∃ r, r = cntIn n gn gs [] ((k : Int) + 1) sum := ⟨_, rfl⟩
      rw [← hr] at HNX
      have HR := Lib.hid hr
      obtain ⟨L, hL⟩ : ∃ L, L = sum.length := ⟨_, rfl⟩
      rw [← hL] at q1 q2 q3 q5 hs HNX ⊢
      have HL := Lib.hid hL
      clear hr hL q2 q3
      obtain ⟨g, rfl, hgB, hgl⟩ := own_blk2 hs (by omega)
      have y1 := own_cell2 hbt (rangeL_get (n := n) (k := 1 + k) (by omega))
      rw [show ((1 + k : Nat) : Int) = (k : Int) + 1 from by omega] at y1
      have hbgl2 : bg < wr.heap.size := by
        obtain ⟨g', hg', _, hl'⟩ := own_blk2 hbt (by omega)
        simp at hg'
        omega
      have hmbw : mb + 1 ≤ wr.heap.size := hm.1.2
      go_wp2_with fail
      obtain ⟨wq, hwq⟩ : ∃ wq : World, wq = wr := ⟨_, rfl⟩
      subst hwq
      go_loopw [7, 8, 25] (fun v7 v8 v25 wr => ∃ (i gn' : Nat) (gs' nx : List Int) (c : Int) (no : Option Addr) (ncap : Nat) (ga' : Option Addr) (gc' : Nat), i ≤ L ∧ v25 = .int .i64 i ∧ v7 = .int .i64 c ∧ v8 = .slice no i ncap ∧ gn' ≤ 300 ∧ Hid (gn' = gn + 2 * i ∧ nx.length = i ∧ cntIn n gn' gs' nx c (sum.drop i) = r) ∧ OwnI wq.heap.size wr no i ncap nx ∧ OwnI (mb + 1) wr (some ⟨g, 0, none⟩) L sc sum ∧ OwnI (mb + 1) wr (some ⟨bg, 0, none⟩) n bc (rangeL n) ∧ Mk B wr mb n 0 ga' gn' gc' gs' ∧ Below B w wr ∧ wq.heap.size ≤ wr.heap.size) (fun _ _ v25 _ => L - (intOf v25).toNat)
      case atStart => exact ⟨0, gn, gs, [], (k : Int) + 1, none, 0, ga, gc, Nat.zero_le _, rfl, by first | rfl | (congr 1; omega), rfl, by omega, ⟨by omega, rfl, by rw [HR.out]; rfl⟩, OwnI.nil _ _ _, hs, hbt, hm, hbel, Nat.le_refl _⟩
      case round =>
        obtain ⟨i, gn', gs', nx, c, no, ncap, ga', gc', hi, rfl, rfl, rfl, hgb, hnx, hno, hs', hbt', hm', hbel', hwz⟩ := hrel
        by_cases hil : i < L
        · obtain ⟨b, hb⟩ : ∃ b, sum[i]? = some b := ⟨sum[i]'(by rw [← HL.out]; exact hil), by simp⟩
          have hd : sum.drop i = b :: sum.drop (i + 1) := by
            rw [List.drop_eq_getElem_cons (by rw [← HL.out]; exact hil)]
            congr 1
            have := List.getElem?_eq_getElem (l := sum) (i := i) (by rw [← HL.out]; exact hil)
            rw [hb] at this
            simpa using this.symm
          have y2 := own_cell2 hs' hb
          have HD := Lib.hid hd
          clear hb hd
          go_wp2_with fail
          refine (sXor_any _ _ _ _ _ _ _ _ _ _ _ hm' HR0.out (by decide) (by omega)).mono ?_
          rintro e w3 ⟨rfl, ga3, gc3, m3, g3⟩
          have hb3 := grew_below hm' g3
          have hs3 := ints_grewC (Nat.le_refl _) hs' hm' g3
          have hbt3 := ints_grewC (Nat.le_refl _) hbt' hm' g3
          have hno3 := ints_grewC hmbw hno hm' g3
          have hbel3 := hbel'.trans hb3
          have hwz3 := Nat.le_trans hwz hb3.size
          have hno3' := hno3
          have HN3 := Lib.hid hno3'
          clear hno3'
          go_wp2_with (at_builtin; refine wpList_append_i rfl _ _ rfl wq.heap.size _ _ _ _ ((n : Int) + gn') rfl (by first | rfl | (simp; rfl)) hno3 (by omega) hwz3 ?_; intro no4 nc4 w4 hown4 hg4)
          have hge : ∀ l, rowOf no ncap = some l → wq.heap.size ≤ l := fun l hl => (HN3.out.rowLt l hl).1
          have hs4 := hs3.other hg4 (fun p q hp hq e => by have h1 := hge q hq; have h2 := row_eq hp; omega)
          have hbt4 := hbt3.other hg4 (fun p q hp hq e => by have h1 := hge q hq; have h2 := row_eq hp; omega)
          have m4 := m3.other hg4 (fun l hl => by have := hge l hl; omega) (fun p q hp hq e => rows_apart HN3.out m3.2.2.2 q p hq hp e.symm)
          have hbel4 := hbel3.grown hg4 (Nat.le_trans (show B ≤ w.heap.size by omega) hbel3.size) (fun l hl => by have := hge l hl; omega)
          refine (sAnd_any _ _ _ _ _ _ _ _ _ _ _ m4 HR0.out (by decide) (by omega)).mono ?_
          rintro e w5 ⟨rfl, ga5, gc5, m5, g5⟩
          have hb5 := grew_below m4 g5
          have hs5 := ints_grewC (Nat.le_refl _) hs4 m4 g5
          have hbt5 := ints_grewC (Nat.le_refl _) hbt4 m4 g5
          have hno5 := ints_grewC hmbw hown4 m4 g5
          have hwz5 := Nat.le_trans (Nat.le_trans hwz3 hg4.size) hb5.size
          go_wp2_with fail
          go_roundw
          case rel => exact ⟨i + 1, gn' + 2, _, nx ++ [(n : Int) + gn'], (n : Int) + gn' + 1, no4, nc4, ga5, gc5, by omega, by go_num, by congr 1 <;> omega, rfl, by have := hnx.out.1; omega, ⟨by have := hnx.out.1; omega, by simp [hnx.out.2.1], by rw [← hnx.out.2.2, HD.out]; simp [cntIn]⟩, hno5, hs5, hbt5, m5, hbel4.trans hb5, hwz5⟩
          case measure => simp [intOf] <;> omega
        · obtain rfl : i = L := by omega
          have hdz : sum.drop i = [] := List.drop_of_length_le (by rw [← HL.out]; exact Nat.le_refl _)
          have hrx : cntIn n gn' gs' nx c [] = r := by rw [← hnx.out.2.2, hdz]
          have HRX := Lib.hid hrx
          have HNL := Lib.hid hnx.out.2.1
          have hpn : (2 ^ i ≤ k + 2) ↔ wrap64 (2 ^ i) ≤ (k : Int) + 2 := by
            have e : ((2 ^ i : Nat) : Int) = 2 ^ i := by simp
            rw [wrap_pow16 i (by omega), ← e]
            generalize 2 ^ i = P
            constructor <;> intro h <;> omega
          have HPN := Lib.hid hpn
          clear hdz hrx hpn y1
          have hr2 : r = (gn', gs', nx, c) := by rw [← HRX.out]; rfl
          have HR2 := Lib.hid hr2
          clear hr2
          by_cases hle : wrap64 (2 ^ i) ≤ (k : Int) + 2
          · have hle' : decide (wrap64 (2 ^ i) ≤ (k : Int) + 2) = true := by simp [hle]
            have HLE := Lib.hid hle
            have HC2 : Hid (cntOut n (k + 1) = (gn', gs', nx ++ [c])) := by show _ = _; rw [HNX.out, HR2.out, if_pos (HPN.out.2 HLE.out)]
            have HLN : Hid ((nx ++ [c]).length = i + 1) := by show _ = _; simp [HNL.out]
            have HMM2 := Lib.hid hm'
            have HN3 := Lib.hid hno
            clear hle hm'
            go_wp2_with (at_builtin; refine wpList_append_i rfl _ _ rfl wq.heap.size _ _ _ _ _ rfl (by first | rfl | (simp; rfl)) hno (by omega) hwz ?_; intro ao' cap' w6 hown6 hg6)
            have hge : ∀ l, rowOf no ncap = some l → wq.heap.size ≤ l := fun l hl => (HN3.out.rowLt l hl).1
            have hbt6 := hbt'.other hg6 (fun p q hp hq e => by have h1 := hge q hq; have h2 := row_eq hp; omega)
            have m7 := HMM2.out.other hg6 (fun l hl => by have := hge l hl; omega) (fun p q hp hq e => rows_apart HN3.out HMM2.out.2.2.2 q p hq hp e.symm)
            have hb7 := hbel'.grown hg6 (Nat.le_trans (show B ≤ w.heap.size by omega) hbel'.size) (fun l hl => by have := hge l hl; omega)
            go_roundw
            case rel => exact ⟨k + 1, ao', cap', ga', gc', by omega, by go_num, by rw [HC2.out]; dsimp only; rw [HLN.out], by rw [HC2.out]; dsimp only; rw [HLN.out]; exact hown6.up hmbw, hbt6, by rw [HC2.out]; exact m7, hb7⟩
            case measure => simp [intOf] <;> omega
          · have hle' : decide (wrap64 (2 ^ i) ≤ (k : Int) + 2) = false := by simp [hle]
            have HLE := Lib.hid hle
            have HC2 : Hid (cntOut n (k + 1) = (gn', gs', nx)) := by show _ = _; rw [HNX.out, HR2.out, if_neg (fun q => HLE.out (HPN.out.1 q))]
            clear hle
            go_wp2_with fail
            go_roundw
            case rel => exact ⟨k + 1, no, ncap, ga', gc', by omega, by go_num, by rw [HC2.out]; dsimp only; rw [HNL.out], by rw [HC2.out]; dsimp only; rw [HNL.out]; exact hno.up hmbw, hbt', by rw [HC2.out]; exact hm', hbel'⟩
            case measure => simp [intOf] <;> omega
    · obtain rfl : k = m := by omega
      go_wp2_with fail
      go_ret
      refine ⟨_, _, _, ga, gc, rfl, ?_, ?_, hbel⟩
      · rw [← HMM.out]; exact hs
      · rw [← HMM.out]; exact hm
set_option maxRecDepth 20000 in
set_option maxHeartbeats 4000000 in
theorem spec_CountCircuit_any (w : World) (n : Int) : Calls Try.prog 25 #[.int .i64 n] w (RetCB (countF n) w) := by
  obtain ⟨W0, hW0⟩ : ∃ W0, W0 = w.alloc (zeroObj 30) := ⟨_, rfl⟩
  have hb0 : Below w.heap.size w W0 := by rw [hW0]; exact (Below.refl _ _).alloc (Nat.le_refl _) _
  have hrow : W0.heap[w.heap.size]? = some (zeroObj 30) := by rw [hW0]; exact heap_alloc_new w _
  have hsz : w.heap.size < W0.heap.size := by rw [hW0]; simp
  have HW0 := Lib.hid hW0
  clear hW0
  have e0 := (blk_at hrow 0).1
  have e1 := (blk_at hrow 1).1
  have e2 := (blk_at hrow 2).1
  have e3 := (blk_at hrow 3).1
  have f0 := (blk_at hrow 0).2
  have f1 := (blk_at hrow 1).2
  have f2 := (blk_at hrow 2).2
  have f3 := (blk_at hrow 3).2
  simp at e0 e1 e2 e3
  unfold zeroObj at HW0
  cases hw : inB n 1 16
  · have HC : Hid (countF n = (0, 0, [], [], false)) := by show _ = _; simp [countF, hw]
    go_enter Try.func25, Try.ntmps25
    go_wp2_with (first | rw [← HW0.out] | (go_at_call 68; refine (l1In_any _ _ _ _).mono ?_; rintro e w' ⟨rfl, rfl⟩; rw [hw]))
    obtain ⟨⟨s0, s1, s2, s3⟩, g4⟩ := stored4 hrow (.int .i64 0) (.int .i64 0) (.slice none 0 0) (.slice none 0 0)
    refine bodyPost_ret (v := .tuple #[circV 0 0 none 0 0 none 0 0, .bool false]) (by simp [results, Try.results25, circV, go_sem, s0, s1, s2, s3]) rfl ⟨_, _, _, _, _, _, by rw [HC.out], ?_, hb0.grown g4 hb0.size (fun k hk => by simp at hk; omega)⟩
    rw [HC.out]
    exact ⟨OwnF.nil _ _ _, OwnI.nil _ _ _, fun k l hk => by simp [rowOf] at hk⟩
  have hwd := inB_iff.1 hw
  obtain ⟨n, rfl⟩ := Int.eq_ofNat_of_zero_le (show 0 ≤ n by omega)
  have hn1 : 1 ≤ n := by omega
  have hn16 : n ≤ 16 := by omega
  have HC : Hid (countF n = ((n : Int), 0, (cntOut n (n - 1)).2.1, (cntOut n (n - 1)).2.2, true)) := by show _ = _; simp [countF, hw]
  have HW := Lib.hid hw
  clear hwd hw
  go_enter Try.func25, Try.ntmps25
  go_wp2_with (first | rw [← HW0.out] | (go_at_call 68; refine (l1In_any _ _ _ _).mono ?_; rintro e w' ⟨rfl, rfl⟩; rw [HW.out]))
  refine (ciNew_any _ _ _).mono ?_
  rintro e W1 ⟨rfl, hmk, hb1⟩
  go_wp2_with fail
  refine (gdRange_any _ n (by omega)).mono ?_
  rintro e W2 ⟨ra, rn, rc, rfl, hr2, hb2⟩
  obtain rfl : rn = n := by have := hr2.1; simp [rangeL] at this; exact this.symm
  have hmk2 := hmk.below hb2 (Nat.le_refl _)
  have hr2' := hr2.up (show W0.heap.size + 1 ≤ W1.heap.size from hmk.1.2)
  go_wp2_with fail
  refine (gdCount_any _ _ _ _ _ _ _ _ hn1 hn16 hmk2 hr2').mono ?_
  rintro e w2 ⟨so, L, sc, ga, gc, rfl, hs, hm, hb3⟩
  have hbel : Below W0.heap.size W0 w2 := hb1.trans ((hb2.mono hb1.size).trans hb3)
  generalize cntOut rn (rn - 1) = st at *
  obtain ⟨gn, gs, sum⟩ := st
  dsimp only at hs hm HC
  have HM2 := Lib.hid hm
  obtain ⟨⟨h1, h2⟩, ⟨m0, m1, m2, m3⟩, mf, mown⟩ := hm
  have mf3 := mf 3
  clear mf e0 e1 e2 e3 f0 f1 f2 f3
  have g3 := gset1 w2 W0.heap.size 3 (.slice so L sc)
  have hrow4 : (w2.setCell ⟨W0.heap.size, 3, none⟩ (.slice so L sc)).heap[w.heap.size]? = some (zeroObj 30) := by
    rw [g3.block _ (Nat.lt_trans hsz h2) (by simp; omega), hbel.block _ hsz, hrow]
  have e0 : (w2.setCell ⟨W0.heap.size, 3, none⟩ (.slice so L sc)).cell? ⟨w.heap.size, 0, none⟩ = some (.int .i64 0) := (blk_at hrow4 0).1
  have e1 : (w2.setCell ⟨W0.heap.size, 3, none⟩ (.slice so L sc)).cell? ⟨w.heap.size, 1, none⟩ = some (.int .i64 0) := (blk_at hrow4 1).1
  have e2 : (w2.setCell ⟨W0.heap.size, 3, none⟩ (.slice so L sc)).cell? ⟨w.heap.size, 2, none⟩ = some (.slice none 0 0) := (blk_at hrow4 2).1
  have e3 : (w2.setCell ⟨W0.heap.size, 3, none⟩ (.slice so L sc)).cell? ⟨w.heap.size, 3, none⟩ = some (.slice none 0 0) := (blk_at hrow4 3).1
  have f0 := (blk_at hrow4 0).2
  have f1 := (blk_at hrow4 1).2
  have f2 := (blk_at hrow4 2).2
  have f3 := (blk_at hrow4 3).2
  go_wp2_with fail
  obtain ⟨⟨s0, s1, s2, s3⟩, g5⟩ := stored4 hrow4 (.int .i64 (rn : Int)) (.int .i64 0) (.slice ga gn gc) (.slice so L sc)
  obtain ⟨E1, E2⟩ := made_end (Nat.le_refl _) hsz HM2.out hs (fun p q hp hq e => rows_apart hs mown q p hq hp e.symm) (hb0.trans (hbel.mono hb0.size)) (Below.refl _ _) g5
  refine bodyPost_ret (v := .tuple #[circV rn 0 ga gn gc so L sc, .bool true]) (by simp [results, Try.results25, circV, go_sem, s0, s1, s2, s3]) rfl ⟨_, _, _, _, _, _, by rw [HC.out], by rw [HC.out]; exact E1, E2⟩
end Go.Proofs.Ytbdccgodamkljaa
