/-
  The language: a program that was written over reads as it was written.
-/
import Derived.Test.YtglehpmaniabbaaMk6
import Derived.Deep.RegionHeld3
namespace Go.Proofs.Ytglehpmaniabbaa
open Go.RowKit
set_option linter.unusedVariables false
set_option linter.unusedSimpArgs false

set_option maxRecDepth 100000 in
set_option maxHeartbeats 8000000 in
theorem heldLineS_any (w : World) (B : Nat) (ao : Option Addr) (n c : Nat) (ls : List Ln) (ha : Lns w B ao n (markL 1 ls)) (hB : B ≤ w.heap.size) (hok : okS ls) (hsum : n + partsSum ls ≤ 1048576) :
    Calls Try.prog 13 #[.slice ao n c, .int .i64 1] w (RetN ((1 + 6 * n + partsSum ls : Nat) : Int) w) := by
  have hn := ha.le
  have HOK := Lib.hid hok
  have hln : ls.length = n := by have := ha.1; rwa [markL_length] at this
  have HN := Lib.hid hln
  have hn20 : n ≤ 1048576 := by omega
  have HSUM := Lib.hid hsum
  clear hok hsum hln
  go_enter Try.func13, Try.ntmps13
  go_wp2_with fail
  go_loopw [1, 5] (fun qv i wr => ∃ (k Q : Nat), k ≤ n ∧ i = .int .i64 k ∧ qv = .int .i64 Q ∧ Hid (Q = 1 + 6 * k + partsSum (ls.take k)) ∧ Below w.heap.size w wr) (fun _ i _ => n - (intOf i).toNat)
  case atStart => exact ⟨0, 1, Nat.zero_le _, rfl, rfl, by show _ = _; simp [partsSum], Below.refl _ _⟩
  case round =>
    obtain ⟨k, Q, hk, rfl, rfl, HQ, hbel⟩ := hrel
    obtain ⟨wr, hwr⟩ := wname' hbel
    subst hwr
    by_cases hlt : k < n
    · obtain ⟨l, hl⟩ := getL_at (i := k) HN.out hlt
      have hpl := (okS_at HOK.out hl).2.2
      have HST := Lib.hid (partsSum_step hl)
      have hmg := markL_get ls 1 k l hl
      rw [show 1 + 6 * k + partsSum (ls.take k) = Q from HQ.out.symm] at hmg
      have hQb : Q ≤ 10000000 := by have := HSUM.out; have := partsSum_le ls k; have := HQ.out; omega
      obtain ⟨b, o, l', pa, pc, rfl, hb, hx, hps, g0, g1, g2, g3, g4, g5, g6⟩ := ha.at hlt
      rw [hmg] at hx
      obtain rfl : markLn Q l = l' := by simpa using hx
      have hbw : b < w.heap.size := Nat.lt_of_lt_of_le hb hB
      have hlen : (markLn Q l).parts.length = l.parts.length := marksT_length _ _
      rw [hlen] at g3 hps
      have C0 := Lib.hid (fun W (hW : Below w.heap.size w W) => (hW.cell (p := ⟨b, o + k * 7, none⟩) hbw).trans (show w.cell? ⟨b, o + k * 7, none⟩ = some (.int .i64 (Q : Int)) from g0))
      have C1 := Lib.hid (fun W (hW : Below w.heap.size w W) => (hW.cell (p := ⟨b, o + k * 7 + 1, none⟩) hbw).trans (show w.cell? ⟨b, o + k * 7 + 1, none⟩ = some (.string (markT (Q + 1))) from g1))
      have C2 := Lib.hid (fun W (hW : Below w.heap.size w W) => (hW.cell (p := ⟨b, o + k * 7 + 2, none⟩) hbw).trans (show w.cell? ⟨b, o + k * 7 + 2, none⟩ = some (.string (markT (Q + 2))) from g2))
      have C3 := Lib.hid (fun W (hW : Below w.heap.size w W) => (hW.cell (p := ⟨b, o + k * 7 + 3, none⟩) hbw).trans g3)
      have C4 := Lib.hid (fun W (hW : Below w.heap.size w W) => (hW.cell (p := ⟨b, o + k * 7 + 4, none⟩) hbw).trans (show w.cell? ⟨b, o + k * 7 + 4, none⟩ = some (.int .i64 ((Q + 3 + l.parts.length : Nat) : Int)) from g4))
      have C5 := Lib.hid (fun W (hW : Below w.heap.size w W) => (hW.cell (p := ⟨b, o + k * 7 + 5, none⟩) hbw).trans (show w.cell? ⟨b, o + k * 7 + 5, none⟩ = some (.int .i64 ((Q + 4 + l.parts.length : Nat) : Int)) from g5))
      have C6 := Lib.hid (fun W (hW : Below w.heap.size w W) => (hW.cell (p := ⟨b, o + k * 7 + 6, none⟩) hbw).trans (show w.cell? ⟨b, o + k * 7 + 6, none⟩ = some (.int .i64 ((Q + 5 + l.parts.length : Nat) : Int)) from g6))
      have HP := Lib.hid (fun W (hW : Below w.heap.size w W) => (show Strs W B pa l.parts.length (marksT (Q + 3) l.parts.length) from hps.below hW hB))
      clear g0 g1 g2 g3 g4 g5 g6 hps hx hmg hl hlen
      have hS : ∀ W, Below wr.heap.size wr W → W.cell? ⟨b, o + k * 7 + 1, none⟩ = some (.string (markT (Q + 1))) ∧ Below w.heap.size w W :=
        fun W h => ⟨C1.out W (hbel.trans (h.mono hbel.size)), hbel.trans (h.mono hbel.size)⟩
      have hS2 : ∀ W W', (W.cell? ⟨b, o + k * 7 + 1, none⟩ = some (.string (markT (Q + 1))) ∧ Below w.heap.size w W) → Below W.heap.size W W' → (W'.cell? ⟨b, o + k * 7 + 1, none⟩ = some (.string (markT (Q + 1))) ∧ Below w.heap.size w W') :=
        fun W W' h hb => ⟨C1.out W' (h.2.trans (hb.mono h.2.size)), h.2.trans (hb.mono h.2.size)⟩
      have HS := Lib.hid hS
      have HS2 := Lib.hid hS2
      clear hS hS2
      have c0 := C0.out wr hbel
      have c1 := C1.out wr hbel
      go_wp2_with fail
      have e1 : (Q : Int) + 1 = ((Q + 1 : Nat) : Int) := by omega
      rw [e1]
      clear e1 c0
      go_region_held3 (fun w' => w'.cell? ⟨b, o + k * 7 + 1, none⟩ = some (.string (markT (Q + 1))) ∧ Below w.heap.size w w') (first | exact HS.out _ (bdrewN (Below.refl _ _) 1) | exact HS2.out _ _ (by assumption) hb')
        (first | (go_at_call 43; refine (markText_any _ (Q + 1) (by omega)).mono ?_; rintro e w' ⟨rfl, hb'⟩))
      all_goals
        rename_i hfin
        obtain ⟨_, hbe2⟩ := hfin
        obtain ⟨w2, hw2⟩ := wname' hbe2
        subst hw2
        have hS : ∀ W, Below w2.heap.size w2 W → W.cell? ⟨b, o + k * 7 + 2, none⟩ = some (.string (markT (Q + 2))) ∧ Below w.heap.size w W :=
          fun W h => ⟨C2.out W (hbe2.trans (h.mono hbe2.size)), hbe2.trans (h.mono hbe2.size)⟩
        have hS2 : ∀ W W', (W.cell? ⟨b, o + k * 7 + 2, none⟩ = some (.string (markT (Q + 2))) ∧ Below w.heap.size w W) → Below W.heap.size W W' → (W'.cell? ⟨b, o + k * 7 + 2, none⟩ = some (.string (markT (Q + 2))) ∧ Below w.heap.size w W') :=
          fun W W' h hb => ⟨C2.out W' (h.2.trans (hb.mono h.2.size)), h.2.trans (hb.mono h.2.size)⟩
        have HS := Lib.hid hS
        have HS2 := Lib.hid hS2
        clear hS hS2 c1
        have c2 := C2.out w2 hbe2
        go_wp2_with fail
        have e1 : (Q : Int) + 1 + 1 = ((Q + 2 : Nat) : Int) := by omega
        rw [e1]
        clear e1
        go_region_held3 (fun w' => w'.cell? ⟨b, o + k * 7 + 2, none⟩ = some (.string (markT (Q + 2))) ∧ Below w.heap.size w w') (first | exact HS.out _ (bdrewN (Below.refl _ _) 1) | exact HS2.out _ _ (by assumption) hb')
          (first | (go_at_call 43; refine (markText_any _ (Q + 2) (by omega)).mono ?_; rintro e w' ⟨rfl, hb'⟩))
        all_goals
          rename_i hfin
          obtain ⟨_, hbe3⟩ := hfin
          obtain ⟨w3, hw3⟩ := wname' hbe3
          subst hw3
          have c3 := C3.out w3 hbe3
          clear c2
          go_wp2_with fail
          have e1 : (Q : Int) + 2 + 1 = ((Q + 3 : Nat) : Int) := by omega
          rw [e1]
          clear e1 c3
          refine (heldStringS_any _ B _ _ _ (Q + 3) (HP.out w3 hbe3) (Nat.le_trans hB hbe3.size) (by omega) hpl).mono ?_
          rintro e w4 ⟨rfl, hb4⟩
          have hbe4 := hbe3.trans (hb4.mono hbe3.size)
          have c4 := C4.out w4 hbe4
          have c5 := C5.out w4 hbe4
          have c6 := C6.out w4 hbe4
          obtain ⟨R, hR⟩ : ∃ R, R = Q + 3 + l.parts.length := ⟨_, rfl⟩
          rw [show Q + 4 + l.parts.length = R + 1 from by omega] at c5
          rw [show Q + 5 + l.parts.length = R + 2 from by omega] at c6
          rw [← hR] at c4 ⊢
          have HR := Lib.hid hR
          have hRb : R ≤ 20000000 := by omega
          clear hR
          go_wp2_with fail
          go_roundw
          case rel => exact ⟨k + 1, R + 3, by omega, by go_num, by go_num, by show _ = _; have := HQ.out; have := HR.out; rw [HST.out]; omega, hbe4⟩
          case measure => simp [intOf] <;> omega
    · obtain rfl : k = n := by omega
      rw [List.take_of_length_le (by rw [HN.out]; exact Nat.le_refl _)] at HQ
      go_wp2_with fail
      go_ret
      exact ⟨ret_int (by rw [← HQ.out]), hbel⟩
end Go.Proofs.Ytglehpmaniabbaa
