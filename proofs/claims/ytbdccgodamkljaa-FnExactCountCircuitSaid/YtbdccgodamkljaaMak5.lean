/-
  Counting circuits: what both ways make, and the program's way.
-/
import Derived.Test.YtbdccgodamkljaaMak4
namespace Go.Proofs.Ytbdccgodamkljaa
open Go.RowKit
set_option linter.unusedVariables false
set_option linter.unusedSimpArgs false

theorem rows_apart {C D : Nat} {w : World} {ao ga : Option Addr} {n cap gn gc : Nat} {xs gs : List Int} (h : OwnI C w ao n cap xs) (k : OwnF 3 68 D w ga gn gc gs) : ∀ p q, rowOf ao cap = some p → rowOf ga gc = some q → p ≠ q := by
  intro p q hp hq e
  subst e
  obtain ⟨_, _, h⟩ := h
  obtain ⟨_, _, k⟩ := k
  rcases h with ⟨_, _, h0⟩ | ⟨g, rfl, hr⟩
  · subst h0; simp [rowOf] at hp
  rcases k with ⟨_, _, k0⟩ | ⟨g', rfl, kr⟩
  · subst k0; simp [rowOf] at hq
  have hg : g = p := by unfold rowOf at hp; split at hp <;> simp_all
  have hg' : g' = p := by unfold rowOf at hq; split at hq <;> simp_all
  subst hg
  subst hg'
  rcases hr.2 with ⟨hv, _⟩ | ⟨g2, c2, cur, hv, _, hh, _⟩
  · simp at hv
  rcases kr.2 with ⟨kv, _⟩ | ⟨g3, c3, cur3, kv, _, kh, _⟩
  · simp at kv
  simp at hv kv
  obtain ⟨rfl, _⟩ := hv
  obtain ⟨rfl, _⟩ := kv
  rw [hh] at kh
  simp at kh
theorem ints_grew {B mb : Nat} {w w' : World} {i0 i1 : Int} {ga ao : Option Addr} {gn gc n cap : Nat} {gs xs : List Int} (h : OwnI (mb + 1) w ao n cap xs) (hm : Mk B w mb i0 i1 ga gn gc gs) (g : Grew w w' ga gc mb) : OwnI (mb + 1) w' ao n cap xs := by
  obtain ⟨u, g1, g2⟩ := g
  have h1 := h.other g1 (fun p q hp hq => rows_apart h hm.2.2.2 p q hp hq)
  exact h1.other g2 (fun p q hp hq => by simp at hq; have := h.rowLt p hp; omega)
/-- Another row than the maker's turns. -/
theorem Mk.other {B mb : Nat} {w w' : World} {i0 i1 : Int} {ga : Option Addr} {gn gc : Nat} {gs : List Int} {row : Option Nat} (h : Mk B w mb i0 i1 ga gn gc gs) (hg : w.grownBy w' row) (hne : ∀ l, row = some l → l ≠ mb) (hne2 : ∀ k l, rowOf ga gc = some k → row = some l → k ≠ l) : Mk B w' mb i0 i1 ga gn gc gs := by
  obtain ⟨⟨h1, h2⟩, ⟨c0, c1, c2, c3⟩, hf, hown⟩ := h
  have hn : some mb ≠ row := fun e => hne mb e.symm rfl
  exact ⟨⟨h1, Nat.lt_of_lt_of_le h2 hg.size⟩, ⟨hg.cell c0 hn, hg.cell c1 hn, hg.cell c2 hn, hg.cell c3 hn⟩, fun j => (World.frozen?_of_block (w := w) (hg.block mb h2 hn)).trans (hf j), hown.other hg hne2⟩
theorem own_cell2 {B : Nat} {w : World} {g n cap : Nat} {xs : List Int} (h : OwnI B w (some ⟨g, 0, none⟩) n cap xs) {k : Nat} {x : Int} (hx : xs[k]? = some x) : w.cell? ⟨g, k, none⟩ = some (.int .i64 x) := h.cell hx
theorem own_blk2 {B : Nat} {w : World} {ao : Option Addr} {n cap : Nat} {xs : List Int} (h : OwnI B w ao n cap xs) (hn : 0 < n) : ∃ g, ao = some ⟨g, 0, none⟩ ∧ B ≤ g ∧ g < w.heap.size := h.blk hn
/-- One bit more is added to a sum. -/
def cntIn (n0 : Int) : Nat → List Int → List Int → Int → List Int → Nat × List Int × List Int × Int
  | gn, gs, nx, c, [] => (gn, gs, nx, c)
  | gn, gs, nx, c, b :: r => cntIn n0 (gn + 2) (gs ++ [0, b, c] ++ [1, b, c]) (nx ++ [n0 + gn]) (n0 + gn + 1) r
/-- The gates and the sum behind k bits more than the first. -/
def cntOut (n0 : Int) : Nat → Nat × List Int × List Int
  | 0 => (0, [], [0])
  | k + 1 =>
    (fun (st : Nat × List Int × List Int) (r : Nat × List Int × List Int × Int) => (r.1, r.2.1, if 2 ^ st.2.2.length ≤ k + 2 then r.2.2.1 ++ [r.2.2.2] else r.2.2.1)) (cntOut n0 k) (cntIn n0 (cntOut n0 k).1 (cntOut n0 k).2.1 [] ((k : Int) + 1) (cntOut n0 k).2.2)
theorem cntIn_facts (n0 : Int) : ∀ (r : List Int) (gn : Nat) (gs nx : List Int) (c : Int), (cntIn n0 gn gs nx c r).1 = gn + 2 * r.length ∧ (cntIn n0 gn gs nx c r).2.2.1.length = nx.length + r.length
  | [], gn, gs, nx, c => by simp [cntIn]
  | b :: r, gn, gs, nx, c => by
    obtain ⟨h1, h2⟩ := cntIn_facts n0 r (gn + 2) (gs ++ [0, b, c] ++ [1, b, c]) (nx ++ [n0 + gn]) (n0 + gn + 1)
    unfold cntIn
    rw [h1, h2]
    simp
    omega
theorem pow_le_5 {L : Nat} (h : 2 ^ (L - 1) ≤ 16) : L ≤ 5 := by
  rcases Nat.lt_or_ge L 6 with h1 | h1
  · omega
  · have : 2 ^ 5 ≤ 2 ^ (L - 1) := Nat.pow_le_pow_right (by decide) (by omega)
    omega
theorem cntOut_facts (n0 : Int) : ∀ k : Nat, k ≤ 15 → 1 ≤ (cntOut n0 k).2.2.length ∧ 2 ^ ((cntOut n0 k).2.2.length - 1) ≤ k + 1 ∧ k + 1 < 2 ^ (cntOut n0 k).2.2.length ∧ (cntOut n0 k).1 ≤ 10 * k
  | 0, _ => by simp [cntOut]
  | k + 1, hk => by
    obtain ⟨h1, h2, h3, h4⟩ := cntOut_facts n0 k (by omega)
    have h5 := pow_le_5 (Nat.le_trans h2 (by omega))
    obtain ⟨f1, f2⟩ := cntIn_facts n0 (cntOut n0 k).2.2 (cntOut n0 k).1 (cntOut n0 k).2.1 [] ((k : Int) + 1)
    have e1 : (cntOut n0 (k + 1)).1 = (cntOut n0 k).1 + 2 * (cntOut n0 k).2.2.length := by rw [← f1]; rfl
    have e2 : (cntOut n0 (k + 1)).2.2.length = if 2 ^ (cntOut n0 k).2.2.length ≤ k + 2 then (cntOut n0 k).2.2.length + 1 else (cntOut n0 k).2.2.length := by
      show (if 2 ^ (cntOut n0 k).2.2.length ≤ k + 2 then _ else _ : List Int).length = _
      split
      · rw [List.length_append, f2]; simp
      · rw [f2]; simp
    generalize (cntOut n0 k).2.2.length = L at *
    rw [e1, e2]
    have hp : 2 ^ (L + 1) = 2 * 2 ^ L := by rw [Nat.pow_succ, Nat.mul_comm]
    split
    · next g => rw [Nat.add_sub_cancel, hp]; omega
    · next g => omega
def countF (n : Int) : Int × Int × List Int × List Int × Bool := if inB n 1 16 = true then (n, 0, (cntOut n (n.toNat - 1)).2.1, (cntOut n (n.toNat - 1)).2.2, true) else (0, 0, [], [], false)
theorem count_all : (List.range 17).all (fun n => n == 0 || isCircF (n : Int) 0 (cntOut n (n - 1)).2.1 (cntOut n (n - 1)).2.2) = true := by kernel_rfl
theorem count_valid (n : Nat) (h1 : 1 ≤ n) (h2 : n ≤ 16) : isCircF n 0 (cntOut n (n - 1)).2.1 (cntOut n (n - 1)).2.2 = true := by
  have := List.all_eq_true.1 count_all n (by simp; omega)
  simp only [Bool.or_eq_true] at this
  rcases this with h | h
  · simp at h; omega
  · exact h
set_option maxRecDepth 20000 in
set_option maxHeartbeats 8000000 in
theorem impl_CountCircuit_any (w : World) (n : Int) : Calls Try.prog 26 #[.int .i64 n] w (RetCB (countF n) w) := by
  obtain ⟨W0, hW0⟩ : ∃ W0, W0 = w.alloc (zeroObj 30) := ⟨_, rfl⟩
  have hb0 : Below w.heap.size w W0 := by rw [hW0]; exact (Below.refl _ _).alloc (Nat.le_refl _) _
  have hrow : W0.heap[w.heap.size]? = some (zeroObj 30) := by rw [hW0]; exact heap_alloc_new w _
  have hsz : w.heap.size < W0.heap.size := by rw [hW0]; simp
  have HW0 := Lib.hid hW0
  clear hW0
  have e0 := (blk_at hrow 0).1
  have e1 := (blk_at hrow 1).1
  have e2 := (blk_at hrow 2).1
  have e3 := (blk_at hrow 3).1
  have f0 := (blk_at hrow 0).2
  have f1 := (blk_at hrow 1).2
  have f2 := (blk_at hrow 2).2
  have f3 := (blk_at hrow 3).2
  simp at e0 e1 e2 e3
  unfold zeroObj at HW0
  cases hw : inB n 1 16
  · have HC : Hid (countF n = (0, 0, [], [], false)) := by show _ = _; simp [countF, hw]
    go_enter Try.func26, Try.ntmps26
    go_wp2_with (first | rw [← HW0.out] | (go_at_call 56; refine (within_any _ _ _ _).mono ?_; rintro e w' ⟨rfl, rfl⟩; rw [hw]))
    obtain ⟨⟨s0, s1, s2, s3⟩, g4⟩ := stored4 hrow (.int .i64 0) (.int .i64 0) (.slice none 0 0) (.slice none 0 0)
    refine bodyPost_ret (v := .tuple #[circV 0 0 none 0 0 none 0 0, .bool false]) (by simp [results, Try.results26, circV, go_sem, s0, s1, s2, s3]) rfl ⟨_, _, _, _, _, _, by rw [HC.out], ?_, hb0.grown g4 hb0.size (fun k hk => by simp at hk; omega)⟩
    rw [HC.out]
    exact ⟨OwnF.nil _ _ _, OwnI.nil _ _ _, fun k l hk => by simp [rowOf] at hk⟩
  have hwd := inB_iff.1 hw
  obtain ⟨n, rfl⟩ := Int.eq_ofNat_of_zero_le (show 0 ≤ n by omega)
  have hn1 : 1 ≤ n := by omega
  have hn16 : n ≤ 16 := by omega
  have HC : Hid (countF n = ((n : Int), 0, (cntOut n (n - 1)).2.1, (cntOut n (n - 1)).2.2, true)) := by show _ = _; simp [countF, hw]
  have HW := Lib.hid hw
  have HCV := Lib.hid (count_valid n hn1 hn16)
  have HR0 : Hid (inB (n : Int) 0 20 = true) := by show _ = _; rw [inB_iff]; omega
  clear hwd hw
  obtain ⟨W1, hW1⟩ : ∃ W1, W1 = W0.alloc (.cells #[.int .i64 (n : Int), .int .i64 0, .slice none 0 0, .slice none 0 0] 82) := ⟨_, rfl⟩
  have hb1 : Below W0.heap.size W0 W1 := by rw [hW1]; exact (Below.refl _ _).alloc (Nat.le_refl _) _
  have hmk : Mk W0.heap.size W1 W0.heap.size n 0 none 0 0 [] := by
    rw [hW1]
    have h := heap_alloc_new W0 (.cells #[.int .i64 (n : Int), .int .i64 0, .slice none 0 0, .slice none 0 0] 82)
    exact ⟨⟨Nat.le_refl _, by simp⟩, ⟨(blk_at h 0).1, (blk_at h 1).1, (blk_at h 2).1, (blk_at h 3).1⟩, fun j => (blk_at h j).2, OwnF.nil _ _ _⟩
  have HW1 := Lib.hid hW1
  clear hW1
  obtain ⟨W2, hW2⟩ : ∃ W2, W2 = W1.alloc (.cells #[.int .i64 0] 3) := ⟨_, rfl⟩
  have hb2 : Below W1.heap.size W1 W2 := by rw [hW2]; exact (Below.refl _ _).alloc (Nat.le_refl _) _
  have hsum : OwnI (W0.heap.size + 1) W2 (some ⟨W1.heap.size, 0, none⟩) 1 1 [0] := by
    rw [hW2]
    refine ⟨rfl, by decide, .inr ⟨_, rfl, rfl, .inr ⟨W1.heap.size, 1, #[.int .i64 0], rfl, by have := hmk.1.2; omega, heap_alloc_new W1 _, Nat.le_refl _, by decide, rfl, rfl⟩⟩⟩
  have HW2 := Lib.hid hW2
  clear hW2
  have hmk2 := hmk.below hb2 (Nat.le_refl _)
  have hB2 : Below W0.heap.size W0 W2 := hb1.trans (hb2.mono hb1.size)
  go_enter Try.func26, Try.ntmps26
  go_wp2_with (first | rw [← HW0.out] | rw [← HW1.out] | rw [← HW2.out] | (go_at_call 56; refine (within_any _ _ _ _).mono ?_; rintro e w' ⟨rfl, rfl⟩; rw [HW.out]))
  clear e0 e1 e2 e3 f0 f1 f2 f3
  go_loopw [5, 6] (fun v5 v6 wr => ∃ (k : Nat) (so : Option Addr) (sc : Nat) (ga : Option Addr) (gc : Nat), k + 1 ≤ n ∧ v6 = .int .i64 ((k : Int) + 1) ∧ v5 = .slice so (cntOut n k).2.2.length sc ∧ OwnI (W0.heap.size + 1) wr so (cntOut n k).2.2.length sc (cntOut n k).2.2 ∧ Mk W0.heap.size wr W0.heap.size n 0 ga (cntOut n k).1 gc (cntOut n k).2.1 ∧ Below W0.heap.size W0 wr) (fun _ v6 _ => n - (intOf v6).toNat)
  case atStart => exact ⟨0, _, _, _, _, by omega, rfl, rfl, hsum, hmk2, hB2⟩
  case round =>
    obtain ⟨k, so, sc, ga, gc, hk, rfl, rfl, hs, hm, hbel⟩ := hrel
    obtain ⟨q1, q2, q3, q4⟩ := cntOut_facts n k (by omega)
    have q5 := pow_le_5 (Nat.le_trans q2 (by omega))
    by_cases hlt : k + 1 < n
    · have HNX : Hid (cntOut n (k + 1) = ((cntIn n (cntOut n k).1 (cntOut n k).2.1 [] ((k : Int) + 1) (cntOut n k).2.2).1, (cntIn n (cntOut n k).1 (cntOut n k).2.1 [] ((k : Int) + 1) (cntOut n k).2.2).2.1, if 2 ^ (cntOut n k).2.2.length ≤ k + 2 then (cntIn n (cntOut n k).1 (cntOut n k).2.1 [] ((k : Int) + 1) (cntOut n k).2.2).2.2.1 ++ [(cntIn n (cntOut n k).1 (cntOut n k).2.1 [] ((k : Int) + 1) (cntOut n k).2.2).2.2.2] else (cntIn n (cntOut n k).1 (cntOut n k).2.1 [] ((k : Int) + 1) (cntOut n k).2.2).2.2.1)) := rfl
      generalize cntOut n k = st at *
      obtain ⟨gn, gs, sum⟩ := st
      dsimp only at q1 q2 q3 q4 q5 hs hm HNX ⊢
      obtain ⟨r, hr⟩ : ∃ r, r = cntIn n gn gs [] ((k : Int) + 1) sum := ⟨_, rfl⟩
      rw [← hr] at HNX
      have HR := Lib.hid hr
      have HRL := Lib.hid (cntIn_facts n sum gn gs [] ((k : Int) + 1))
      obtain ⟨L, hL⟩ : ∃ L, L = sum.length := ⟨_, rfl⟩
      rw [← hL] at q1 q2 q3 q5 hs HNX HRL ⊢
      have HL := Lib.hid hL
      clear hr hL q2 q3
      have hkn : (k : Int) + 1 < (n : Int) := by omega
      obtain ⟨g, rfl, hgB, hgl⟩ := own_blk2 hs (by omega)
      go_wp2_with fail
      obtain ⟨wq, rfl⟩ : ∃ wq : World, wq = wr := ⟨_, rfl⟩
      go_loopw [7, 27] (fun v7 v27 wr => ∃ (i gn' : Nat) (gs' nx : List Int) (c : Int) (ga' : Option Addr) (gc' : Nat), i ≤ L ∧ v27 = .int .i64 i ∧ v7 = .int .i64 c ∧ gn' = gn + 2 * i ∧ Hid (nx.length = i ∧ cntIn n gn' gs' nx c (sum.drop i) = r) ∧ OwnI (W0.heap.size + 1) wr (some ⟨g, 0, none⟩) L sc (nx ++ sum.drop i) ∧ Mk W0.heap.size wr W0.heap.size n 0 ga' gn' gc' gs' ∧ Below W0.heap.size W0 wr) (fun _ v27 _ => L - (intOf v27).toNat)
      case atStart => exact ⟨0, gn, gs, [], (k : Int) + 1, ga, gc, Nat.zero_le _, rfl, rfl, by omega, ⟨rfl, by rw [HR.out]; rfl⟩, by simpa using hs, hm, hbel⟩
      case round =>
        obtain ⟨i, gn', gs', nx, c, ga', gc', hi, rfl, rfl, hgn, hnx, hs', hm', hbel'⟩ := hrel
        have hgb : gn' ≤ 300 := by omega
        have HGN := Lib.hid hgn
        clear hgn
        by_cases hil : i < L
        · obtain ⟨b, hb⟩ : ∃ b, sum[i]? = some b := ⟨sum[i]'(by rw [← HL.out]; exact hil), by simp⟩
          have hd : sum.drop i = b :: sum.drop (i + 1) := by
            rw [List.drop_eq_getElem_cons (by rw [← HL.out]; exact hil)]
            congr 1
            have := List.getElem?_eq_getElem (l := sum) (i := i) (by rw [← HL.out]; exact hil)
            rw [hb] at this
            simpa using this.symm
          have hget : (nx ++ sum.drop i)[i]? = some b := by
            rw [List.getElem?_append_right (by rw [hnx.out.1]; exact Nat.le_refl _), hnx.out.1, Nat.sub_self, hd]; rfl
          have hset : ∀ v : Int, (nx ++ sum.drop i).set i v = nx ++ [v] ++ sum.drop (i + 1) := by
            intro v
            rw [List.set_append_right _ _ (by rw [hnx.out.1]; exact Nat.le_refl _), hnx.out.1, Nat.sub_self, hd, List.set_cons_zero]
            simp
          have y0 := own_cell2 hs' hget
          have HGET := Lib.hid hget
          have HSET := Lib.hid hset
          have HD := Lib.hid hd
          clear hb hd hget hset
          go_wp2_with fail
          refine (iXor_any _ _ _ _ _ _ _ _ _ _ _ hm' HR0.out (by decide) (by omega)).mono ?_
          rintro e w3 ⟨rfl, ga3, gc3, m3, g3⟩
          have hb3 := grew_below hm' g3
          have hs3 := ints_grew hs' hm' g3
          have hbel3 := hbel'.trans hb3
          obtain ⟨s1, s2, s3⟩ := hs3.set (k := i) hil ((n : Int) + gn')
          have y1 := own_cell2 hs3 HGET.out
          have m4 := m3.other s2 (fun l hl => by have := hs3.rowLt l hl; omega) (fun p q hp hq e => rows_apart hs3 m3.2.2.2 q p hq hp e.symm)
          have hbel4 := below_append hbel3 (hs3.up (Nat.le_succ _)).2.2 s2 hbel3.size
          rw [HSET.out] at s1
          have hs3B := s1
          have m4B := m4
          have HS1 := Lib.hid s1
          have HM4 := Lib.hid m4
          have HB4 := Lib.hid hbel4
          clear s1 m4 s2 hbel4 hs3B m4B
          go_wp2_with fail
          refine (iAnd_any _ _ _ _ _ _ _ _ _ _ _ HM4.out HR0.out (by decide) (by omega)).mono ?_
          rintro e w5 ⟨rfl, ga5, gc5, m5, g5⟩
          have hs5 := ints_grew HS1.out HM4.out g5
          have hbel5 := HB4.out.trans (grew_below HM4.out g5)
          go_wp2_with fail
          go_roundw
          case rel => exact ⟨i + 1, gn' + 2, _, nx ++ [(n : Int) + gn'], (n : Int) + gn' + 1, ga5, gc5, by omega, by go_num, by congr 1 <;> omega, by have := HGN.out; omega, ⟨by simp [hnx.out.1], by rw [← hnx.out.2, HD.out]; simp [cntIn]⟩, by simpa using hs5, m5, hbel5⟩
          case measure => simp [intOf] <;> omega
        · obtain rfl : i = L := by omega
          have hdz : sum.drop i = [] := List.drop_of_length_le (by rw [← HL.out]; exact Nat.le_refl _)
          have hrx : cntIn n gn' gs' nx c [] = r := by rw [← hnx.out.2, hdz]
          rw [hdz, List.append_nil] at hs'
          have HRX := Lib.hid hrx
          have HNL := Lib.hid hnx.out.1
          have hpn : (2 ^ i ≤ k + 2) ↔ wrap64 (2 ^ i) ≤ (k : Int) + 1 + 1 := by
            have e : ((2 ^ i : Nat) : Int) = 2 ^ i := by simp
            rw [wrap_pow16 i (by omega), ← e]
            generalize 2 ^ i = P
            constructor <;> intro h <;> omega
          have HPN := Lib.hid hpn
          clear hdz hrx hpn
          by_cases hle : wrap64 (2 ^ i) ≤ (k : Int) + 1 + 1
          · have hle' : decide (wrap64 (2 ^ i) ≤ (k : Int) + 1 + 1) = true := by simp [hle]
            have HLE := Lib.hid hle
            clear hle
            have hr2 : r = (gn', gs', nx, c) := by rw [← HRX.out]; rfl
            have HC2 : Hid (cntOut n (k + 1) = (gn', gs', nx ++ [c])) := by show _ = _; rw [HNX.out, hr2, if_pos (HPN.out.2 HLE.out)]
            have HLN : Hid ((nx ++ [c]).length = i + 1) := by show _ = _; simp [HNL.out]
            have HMM := Lib.hid hm'
            have hrl := Lib.hid hs'.rowLt
            have HSS := Lib.hid hs'
            have hwsz := hm'.1.2
            clear hr2 hm'
            go_wp2_with (at_builtin; refine wpList_append_i rfl _ _ rfl (W0.heap.size + 1) _ _ _ _ _ rfl (by first | rfl | (simp; rfl)) hs' (by omega) (by omega) ?_; intro ao' cap' w6 hown6 hg6)
            have m7 := HMM.out.other hg6 (fun l hl => by have := hrl.out l hl; omega) (fun p q hp hq e => rows_apart HSS.out HMM.out.2.2.2 q p hq hp e.symm)
            have hb7 := below_append hbel' (HSS.out.up (Nat.le_succ _)).2.2 hg6 hbel'.size
            go_roundw
            case rel => exact ⟨k + 1, ao', cap', ga', gc', by omega, by rw [show (((k + 1 : Nat)) : Int) = (k : Int) + 1 from by omega], by rw [HC2.out]; dsimp only; rw [HLN.out], by rw [HC2.out]; dsimp only; rw [HLN.out]; exact hown6, by rw [HC2.out]; exact m7, hb7⟩
            case measure => simp [intOf] <;> omega
          · have hle' : decide (wrap64 (2 ^ i) ≤ (k : Int) + 1 + 1) = false := by simp [hle]
            have HLE := Lib.hid hle
            clear hle
            have hr2 : r = (gn', gs', nx, c) := by rw [← HRX.out]; rfl
            have HC2 : Hid (cntOut n (k + 1) = (gn', gs', nx)) := by show _ = _; rw [HNX.out, hr2, if_neg (fun q => HLE.out (HPN.out.1 q))]
            clear hr2
            go_wp2_with fail
            go_roundw
            case rel => exact ⟨k + 1, _, sc, ga', gc', by omega, by rw [show (((k + 1 : Nat)) : Int) = (k : Int) + 1 from by omega], by rw [HC2.out]; dsimp only; rw [HNL.out], by rw [HC2.out]; dsimp only; rw [HNL.out]; exact hs', by rw [HC2.out]; exact hm', hbel'⟩
            case measure => simp [intOf] <;> omega
    · have hn1k : n - 1 = k := by omega
      rw [hn1k] at HC HCV
      have hnlt : ¬ ((k : Int) + 1 < (n : Int)) := by omega
      clear hn1k hlt
      generalize cntOut n k = st at *
      obtain ⟨gn, gs, sum⟩ := st
      dsimp only at hs hm HC HCV q1 q2 q3 q4 q5 ⊢
      obtain ⟨L, hL⟩ : ∃ L, L = sum.length := ⟨_, rfl⟩
      rw [← hL] at hs ⊢
      clear hL q1 q2 q3 q5
      have HM2 := Lib.hid hm
      obtain ⟨⟨h1, h2⟩, ⟨m0, m1, m2, m3⟩, mf, mown⟩ := hm
      have mf3 := mf 3
      clear mf
      have g3 := gset1 wr W0.heap.size 3 (.slice so L sc)
      have hF := (mown.other g3 (fun k l e1 e2 => by simp at e2; have := mown.rowLt k e1; omega)).flat
      have hI := (hs.other g3 (fun k l e1 e2 => by simp at e2; have := hs.rowLt k e1; omega)).ints
      go_wp2_with fail
      refine (valid_any _ _ _ _ _ _ _ _ _ _ _ hF hI HCV.out).mono ?_
      rintro e w4 ⟨rfl, hb4⟩
      have hrow4 : w4.heap[w.heap.size]? = some (zeroObj 30) := by
        rw [hb4.block _ (Nat.lt_of_lt_of_le (Nat.lt_of_lt_of_le hsz (Nat.le_of_lt h2)) g3.size), g3.block _ (Nat.lt_trans hsz h2) (by simp; omega), hbel.block _ hsz, hrow]
      have e0 := (blk_at hrow4 0).1
      have e1 := (blk_at hrow4 1).1
      have e2 := (blk_at hrow4 2).1
      have e3 := (blk_at hrow4 3).1
      have f0 := (blk_at hrow4 0).2
      have f1 := (blk_at hrow4 1).2
      have f2 := (blk_at hrow4 2).2
      have f3 := (blk_at hrow4 3).2
      simp at e0 e1 e2 e3
      unfold circV
      go_wp2_with fail
      obtain ⟨⟨s0, s1, s2, s3⟩, g5⟩ := stored4 hrow4 (.int .i64 (n : Int)) (.int .i64 0) (.slice ga gn gc) (.slice so L sc)
      obtain ⟨E1, E2⟩ := made_end (Nat.le_refl _) hsz HM2.out hs (fun p q hp hq e => rows_apart hs mown q p hq hp e.symm) (hb0.trans (hbel.mono hb0.size)) hb4 g5
      refine bodyPost_ret (v := .tuple #[circV n 0 ga gn gc so L sc, .bool true]) (by simp [results, Try.results26, circV, go_sem, s0, s1, s2, s3]) rfl ⟨_, _, _, _, _, _, by rw [HC.out], by rw [HC.out]; exact E1, E2⟩
end Go.Proofs.Ytbdccgodamkljaa
