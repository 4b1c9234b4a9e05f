/-
  The language: marks in the laws: all lines of a program.
-/
import Derived.Test.YtglehpmaniabbaaMk2
namespace Go.Proofs.Ytglehpmaniabbaa
open Go.RowKit
set_option linter.unusedVariables false
set_option linter.unusedSimpArgs false

theorem foldl_ge (l : List Nat) : ∀ a : Nat, a ≤ l.foldl (· + ·) a := by
  induction l with
  | nil => intro a; exact Nat.le_refl _
  | cons x r ih => intro a; exact Nat.le_trans (Nat.le_add_right a x) (ih (a + x))
theorem partsSum_le (ls : List Ln) (k : Nat) : partsSum (ls.take k) ≤ partsSum ls := by
  have e : partsSum ls = ((ls.drop k).map fun l => l.parts.length).foldl (· + ·) (partsSum (ls.take k)) := by
    unfold partsSum
    rw [← List.foldl_append, ← List.map_append, List.take_append_drop]
  rw [e]
  exact foldl_ge _ _
set_option maxRecDepth 100000 in
set_option maxHeartbeats 8000000 in
theorem markLineS_wl (w : World) (C D g : Nat) (ls : List Ln) (hs : List (Option Addr × Nat)) (hw : WL C D g w ls hs) (hsl : hs.length = ls.length) (c : Nat) (hok : okS ls) (hsum : ls.length + partsSum ls ≤ 1048576) :
    Calls Try.prog 12 #[.slice (some ⟨g, 0, none⟩) ls.length c, .int .i64 1] w fun e w' => ∃ Q : Nat, e = .returned (.int .i64 Q) ∧ Q ≤ 100000000 ∧ Kept C D w w' := by
  have HW := Lib.hid hw
  have HOK := Lib.hid hok
  have HSL := Lib.hid hsl
  obtain ⟨n, hn⟩ : ∃ n, n = ls.length := ⟨_, rfl⟩
  have HN := Lib.hid hn
  have hn20 : n ≤ 1048576 := by omega
  have HSUM := Lib.hid hsum
  rw [← hn]
  clear hw hok hsl hn hsum
  go_enter Try.func12, Try.ntmps12
  go_wp2_with fail
  go_loopw [1, 5] (fun qv i wr => ∃ (k Q : Nat), k ≤ n ∧ i = .int .i64 k ∧ qv = .int .i64 Q ∧ Q ≤ 1 + 6 * k + partsSum (ls.take k) ∧ WL C D g wr ls hs ∧ Kept C D w wr) (fun _ i _ => n - (intOf i).toNat)
  case atStart => exact ⟨0, 1, Nat.zero_le _, rfl, rfl, by simp [partsSum], HW.out, Kept.refl _ _ _⟩
  case round =>
    obtain ⟨k, Q, hk, rfl, rfl, hQ, hwl, hke⟩ := hrel
    by_cases hlt : k < n
    · obtain ⟨l, hl⟩ := getL_at (i := k) HN.out.symm hlt
      obtain ⟨x, hx⟩ := getL_at (i := k) (HSL.out.trans HN.out.symm) hlt
      have hpl := (okS_at HOK.out hl).2.2
      have HST := Lib.hid (partsSum_step hl)
      have HLL := Lib.hid hl
      have HXX := Lib.hid hx
      have hPl := partsSum_le ls k
      obtain ⟨P, hP⟩ : ∃ P, P = partsSum (ls.take k) := ⟨_, rfl⟩
      rw [← hP] at hQ HST hPl
      have hkb : k ≤ 1048576 := by omega
      have hQb : Q ≤ 10000000 := by have := HSUM.out; omega
      have HQ := Lib.hid hQ
      clear hP hl hx hQ hPl
      obtain ⟨x, xc⟩ := x
      obtain ⟨hd, hcv, hfr⟩ := hwl.lines k l (x, xc) HLL.out HXX.out
      obtain ⟨v0, a0⟩ := hcv 0 (by decide)
      have f0 := hfr 0
      rw [Nat.add_zero] at a0 f0
      obtain ⟨W1, hW1⟩ : ∃ W1, W1 = wr.setCell ⟨g, k * 7, none⟩ (.int .i64 Q) := ⟨_, rfl⟩
      have hwl1 : WL C D g W1 ls hs := by rw [hW1]; exact hwl.setLine k 0 (by decide) (by decide) _
      have hke1 : Kept C D w W1 := by rw [hW1]; exact hke.set _ _ hwl.lo hwl.hi
      have HW1 := Lib.hid hW1
      clear hW1 hcv hfr hd
      go_wp2_with (rw [← HW1.out])
      have e1 : (Q : Int) + 1 = ((Q + 1 : Nat) : Int) := by omega
      rw [e1]
      clear a0 f0 e1
      refine (markText_any _ _ (by omega)).mono ?_
      rintro e w2 ⟨rfl, hb2⟩
      have hwl2 := hwl1.below hb2 hwl1.size
      have hke2 := hke1.trans (Kept.of_below (C := C) (D := D) hb2 (Nat.le_refl _))
      obtain ⟨hd, hcv, hfr⟩ := hwl2.lines k l (x, xc) HLL.out HXX.out
      obtain ⟨v1, a1⟩ := hcv 1 (by decide)
      have f1 := hfr 1
      obtain ⟨W3, hW3⟩ : ∃ W3, W3 = w2.setCell ⟨g, k * 7 + 1, none⟩ (.string (markT (Q + 1))) := ⟨_, rfl⟩
      have hwl3 : WL C D g W3 ls hs := by rw [hW3]; exact hwl2.setLine k 1 (by decide) (by decide) _
      have hke3 : Kept C D w W3 := by rw [hW3]; exact hke2.set _ _ hwl2.lo hwl2.hi
      have HW3 := Lib.hid hW3
      clear hW3 hcv hfr hd
      go_wp2_with (rw [← HW3.out])
      have e1 : (Q : Int) + 1 + 1 = ((Q + 2 : Nat) : Int) := by omega
      rw [e1]
      clear a1 f1 e1
      refine (markText_any _ _ (by omega)).mono ?_
      rintro e w4 ⟨rfl, hb4⟩
      have hwl4 := hwl3.below hb4 hwl3.size
      have hke4 := hke3.trans (Kept.of_below (C := C) (D := D) hb4 (Nat.le_refl _))
      obtain ⟨hd, hcv, hfr⟩ := hwl4.lines k l (x, xc) HLL.out HXX.out
      obtain ⟨v2, a2⟩ := hcv 2 (by decide)
      have f2 := hfr 2
      obtain ⟨W5, hW5⟩ : ∃ W5, W5 = w4.setCell ⟨g, k * 7 + 2, none⟩ (.string (markT (Q + 2))) := ⟨_, rfl⟩
      have hwl5 : WL C D g W5 ls hs := by rw [hW5]; exact hwl4.setLine k 2 (by decide) (by decide) _
      have hke5 : Kept C D w W5 := by rw [hW5]; exact hke4.set _ _ hwl4.lo hwl4.hi
      have HW5 := Lib.hid hW5
      clear hW5 hcv hfr hd
      obtain ⟨hd, _, _⟩ := hwl5.lines k l (x, xc) HLL.out HXX.out
      go_wp2_with (rw [← HW5.out])
      have e1 : (Q : Int) + 2 + 1 = ((Q + 3 : Nat) : Int) := by omega
      rw [e1]
      clear hd e1
      refine (markStringS_wl W5 C D g ls hs hwl5 k l (x, xc) HLL.out HXX.out (Q + 3) _ (by omega) hpl).mono ?_
      rintro e w6 ⟨rfl, hwl6, hk6⟩
      have hke6 := hke5.trans hk6
      obtain ⟨R, hR⟩ : ∃ R, R = Q + 3 + l.parts.length := ⟨_, rfl⟩
      rw [← hR]
      have hRb : R ≤ 20000000 := by omega
      have HR := Lib.hid hR
      clear hR
      obtain ⟨hd, hcv, hfr⟩ := hwl6.lines k l (x, xc) HLL.out HXX.out
      obtain ⟨v4, a4⟩ := hcv 4 (by decide)
      have f4 := hfr 4
      obtain ⟨W7, hW7⟩ : ∃ W7, W7 = w6.setCell ⟨g, k * 7 + 4, none⟩ (.int .i64 R) := ⟨_, rfl⟩
      have hwl7 : WL C D g W7 ls hs := by rw [hW7]; exact hwl6.setLine k 4 (by decide) (by decide) _
      have hke7 : Kept C D w W7 := by rw [hW7]; exact hke6.set _ _ hwl6.lo hwl6.hi
      have HW7 := Lib.hid hW7
      clear hW7 hcv hfr hd
      obtain ⟨hd, hcv, hfr⟩ := hwl7.lines k l (x, xc) HLL.out HXX.out
      obtain ⟨v5, a5⟩ := hcv 5 (by decide)
      have f5 := hfr 5
      obtain ⟨W8, hW8⟩ : ∃ W8, W8 = W7.setCell ⟨g, k * 7 + 5, none⟩ (.int .i64 (R + 1)) := ⟨_, rfl⟩
      have hwl8 : WL C D g W8 ls hs := by rw [hW8]; exact hwl7.setLine k 5 (by decide) (by decide) _
      have hke8 : Kept C D w W8 := by rw [hW8]; exact hke7.set _ _ hwl7.lo hwl7.hi
      have HW8 := Lib.hid hW8
      clear hW8 hcv hfr hd
      obtain ⟨hd, hcv, hfr⟩ := hwl8.lines k l (x, xc) HLL.out HXX.out
      obtain ⟨v6, a6⟩ := hcv 6 (by decide)
      have f6 := hfr 6
      obtain ⟨W9, hW9⟩ : ∃ W9, W9 = W8.setCell ⟨g, k * 7 + 6, none⟩ (.int .i64 ((R : Int) + 1 + 1)) := ⟨_, rfl⟩
      have hW9' : W8.setCell ⟨g, k * 7 + 6, none⟩ (.int .i64 ((R : Int) + 2)) = W9 := by rw [hW9, show (R : Int) + 1 + 1 = R + 2 from by omega]
      have hwl9 : WL C D g W9 ls hs := by rw [hW9]; exact hwl8.setLine k 6 (by decide) (by decide) _
      have hke9 : Kept C D w W9 := by rw [hW9]; exact hke8.set _ _ hwl8.lo hwl8.hi
      have HW9 := Lib.hid hW9
      have HW9' := Lib.hid hW9'
      clear hW9 hW9' hcv hfr hd
      go_wp2_with (first | rw [← HW7.out] | rw [← HW8.out] | rw [← HW9.out] | rw [HW9'.out])
      go_roundw
      case rel => exact ⟨k + 1, R + 3, by omega, by go_num, by go_num, by rw [HST.out]; have := HQ.out; have := HR.out; omega, hwl9, hke9⟩
      case measure => simp [intOf] <;> omega
    · obtain rfl : k = n := by omega
      rw [List.take_of_length_le (by rw [← HN.out]; exact Nat.le_refl _)] at hQ
      have HQ := Lib.hid hQ
      clear hQ
      go_wp2_with fail
      go_ret
      exact ⟨Q, rfl, by have := HQ.out; have := HSUM.out; have := HN.out; omega, hke⟩
end Go.Proofs.Ytglehpmaniabbaa
