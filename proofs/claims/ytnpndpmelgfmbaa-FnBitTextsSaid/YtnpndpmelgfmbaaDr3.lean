/-
  Draws: a spoilt text, a text of bits.
-/
import Derived.Test.YtnpndpmelgfmbaaDr2
import Derived.Test.YtnpndpmelgfmbaaText
namespace Go.Proofs.Ytnpndpmelgfmbaa
open Go.RowKit
set_option linter.unusedVariables false
set_option linter.unusedSimpArgs false

/-- A text is drawn. -/
def DrewS (N b m : Nat) (w : World) (e : Ending) (w' : World) : Prop := ∃ s : ByteArray, e = .returned (.string s) ∧ s.size ≤ N ∧ Cur w' b m ∧ w.grownBy w' (some b)
theorem nat_of {x : Int} (h : 0 ≤ x) : ∃ k : Nat, x = k := Int.eq_ofNat_of_zero_le h
set_option maxHeartbeats 4000000 in
set_option maxRecDepth 20000 in
theorem spoilt_any (w : World) (b m : Nat) (hc : Cur w b m) (hm : m + 100 ≤ 1000000000000) (t v : ByteArray) (ht : t.size ≤ 1000) (hv : 1 ≤ v.size) (hv2 : v.size ≤ 100) :
    Calls Try.prog 127 #[.pointer (some ⟨b, 0, none⟩), .string t, .string v] w (DrewS (t.size + 2) b (m + 30) w) := by
  have hbl := hc.lt
  go_enter Try.func127, Try.ntmps127
  go_wp2_with fail
  refine (pick_any _ _ _ hc (by omega) 2 (by omega) (by omega)).mono ?_
  rintro e w1 ⟨r, hr0, hr1, rfl, hc1, hg1⟩
  go_wp2_with fail
  go_loopw [1, 7] (fun x1 x7 wr => ∃ (k : Int) (s : ByteArray), 0 ≤ k ∧ k ≤ 2 ∧ x7 = .int .i64 k ∧ x1 = .string s ∧ (s.size : Int) ≤ t.size + (2 - k) ∧ Cur wr b (m + 2 + 6 * (2 - k).toNat) ∧ w.grownBy wr (some b)) (fun _ x7 _ => (intOf x7).toNat)
  case atStart => exact ⟨_, _, by omega, by omega, rfl, rfl, by omega, hc1.more (by omega) (by omega), hg1⟩
  case round =>
    obtain ⟨k, s, hk0, hk2, rfl, rfl, hsz, hcu, hg⟩ := hrel
    by_cases hk : 0 < k
    · by_cases hs : 0 < s.size
      · have hs' : (0 : Int) < s.size := by omega
        go_wp2_with fail
        refine (pick_any _ _ _ hcu (by omega) s.size (by omega) (by omega)).mono ?_
        rintro e w2 ⟨i, hi0, hi1, rfl, hc2, hg2⟩
        obtain ⟨i, rfl⟩ := nat_of hi0
        go_wp2_with fail
        refine (pick_any _ _ _ hc2 (by omega) v.size (by omega) (by omega)).mono ?_
        rintro e w3 ⟨j, hj0, hj1, rfl, hc3, hg3⟩
        obtain ⟨j, rfl⟩ := nat_of hj0
        have hjv : j < v.size := by omega
        have hcv := str_conv1 w3 (v[j].toNat : Int)
        obtain ⟨W4, hW4⟩ : ∃ W, W = w3.alloc (.cells #[.int .u8 (v[j].toNat : Int)] 5) := ⟨_, rfl⟩
        have hb4 : Below w3.heap.size w3 W4 := by rw [hW4]; exact (Below.refl _ _).alloc (Nat.le_refl _) _
        rw [← hW4] at hcv
        have HW4 := Lib.hid hW4
        clear hW4
        obtain ⟨q, hq⟩ : ∃ q, q = strOfNums [(v[j].toNat : Int)] := ⟨_, rfl⟩
        have hq1 : q.size ≤ 1 := by rw [hq]; exact Nat.le_refl 1
        rw [← hq] at hcv
        clear hq
        have hc4 := hc3.below hb4 hc3.lt
        have hg4 := gbelow (gtrans (gtrans hg hg2) hg3) hb4
        go_wp2_with (rw [← HW4.out])
        refine (pick_any _ _ _ hc4 (by omega) 3 (by omega) (by omega)).mono ?_
        rintro e w5 ⟨p, hp0, hp1, rfl, hc5, hg5⟩
        have e1 : (s.extract 0 i).size ≤ 1100 := by simp; omega
        have e3 : (s.extract 0 i ++ q).size ≤ 1101 := by simp; omega
        have e4 : (s.extract i s.size).size ≤ 1100 := by simp; omega
        have e5 : (s.extract (i + 1) s.size).size ≤ 1100 := by simp; omega
        by_cases p0 : p = 0
        · subst p0
          go_wp2_with fail
          go_quiet (fail)
          go_wp2_with fail
          go_roundw
          case rel => exact ⟨k - 1, _, by omega, by omega, rfl, rfl, by simp; omega, (hc5.drewN _).more (by omega) (by omega), gdrewN (gtrans hg4 hg5) _⟩
          case measure => simp [intOf] <;> omega
        by_cases p1 : p = 1
        · subst p1
          go_wp2_with fail
          go_quiet (fail)
          go_wp2_with fail
          go_roundw
          case rel => exact ⟨k - 1, _, by omega, by omega, rfl, rfl, by simp; omega, (hc5.drewN _).more (by omega) (by omega), gdrewN (gtrans hg4 hg5) _⟩
          case measure => simp [intOf] <;> omega
        · go_wp2_with fail
          go_quiet (fail)
          go_wp2_with fail
          go_roundw
          case rel => exact ⟨k - 1, _, by omega, by omega, rfl, rfl, by simp; omega, (hc5.drewN _).more (by omega) (by omega), gdrewN (gtrans hg4 hg5) _⟩
          case measure => simp [intOf] <;> omega
      · have hs' : ¬ (0 : Int) < s.size := by omega
        go_wp2_with fail
        go_ret
        exact ⟨_, rfl, by omega, hcu.more (by omega) (by omega), hg⟩
    · go_wp2_with fail
      go_ret
      exact ⟨_, rfl, by omega, hcu.more (by omega) (by omega), hg⟩
/-- What a draw hands over: a text. -/
def RetDS (N : Nat) (w : World) (e : Ending) (w' : World) : Prop := ∃ s : ByteArray, e = .returned (.string s) ∧ s.size ≤ N ∧ Below w.heap.size w w'
set_option maxHeartbeats 4000000 in
set_option maxRecDepth 20000 in
theorem DrawParseBits_any (w : World) (ao : Option Addr) (n cap : Nat) (bs : List Int) (h : Bytes w w.heap.size ao n bs) :
    Calls Try.prog 44 #[.slice ao n cap] w (RetDS 200 w) := by
  obtain ⟨W, hW, hc, hb, hlt⟩ := cur_new w ao n cap bs h
  have HW := Lib.hid hW
  clear hW
  go_enter Try.func44, Try.ntmps44
  go_wp2_with (rw [← HW.out])
  refine (pick_any _ _ _ hc (by omega) 14 (by omega) (by omega)).mono ?_
  rintro e w1 ⟨r, hr0, hr1, rfl, hc1, hg1⟩
  go_wp2_with fail
  refine (bits_any _ _ _ hc1 (by omega) _ (by omega)).mono ?_
  rintro e w2 ⟨xs, bo, k, cap2, rfl, ho2, hk, hx, hc2, hg2⟩
  go_wp2_with fail
  refine (one_any _ _ _ hc2 (by omega) 20 (by omega) (by omega)).mono ?_
  rintro e w3 ⟨v, rfl, hc3, hg3⟩
  have ho3 := ho2.other hg3 (fun p l hp hl => by have := (ho2.rowLt p hp).1; have := hc1.lt; simp at hl; omega)
  clear ho2
  have HX := Lib.hid (allIn_iff.2 hx)
  clear hx
  cases v
  · go_wp2_with fail
    refine (btText_any _ _ _ _ _ ho3.ints (by omega) HX.out).mono ?_
    rintro e w4 ⟨rfl, hb4⟩
    have hs4 : (strOfNums (digs xs)).size ≤ 100 := by rw [strOfNums_size, digs_length, ho3.1]; omega
    generalize strOfNums (digs xs) = s at *
    have hc4 := hc3.below hb4 hc3.lt
    go_wp2_with fail
    refine (one_any _ _ _ hc4 (by omega) 4 (by omega) (by omega)).mono ?_
    rintro e w5 ⟨v, rfl, hc5, hg5⟩
    have hG := gtrans (gbelow (gtrans (gtrans hg1 hg2) hg3) hb4) hg5
    cases v
    · go_wp2_with fail
      go_ret
      exact ⟨_, rfl, by omega, below_cur hb hG⟩
    · go_wp2_with fail
      refine (spoilt_any _ _ _ hc5 (by omega) _ _ (by omega) (by decide) (by decide)).mono ?_
      rintro e w6 ⟨u, rfl, hu, hc6, hg6⟩
      go_wp2_with fail
      go_ret
      exact ⟨_, rfl, by omega, below_cur hb (gtrans hG hg6)⟩
  · go_wp2_with fail
    refine (pick_any _ _ _ hc3 (by omega) 2 (by omega) (by omega)).mono ?_
    rintro e w3' ⟨r', hr0', hr1', rfl, hc3', hg3'⟩
    go_wp2_with fail
    refine (bits_any _ _ _ hc3' (by omega) _ (by omega)).mono ?_
    rintro e w3'' ⟨xs', bo', k', cap2', rfl, ho3', hk', hx', hc3'', hg3''⟩
    have HX' := Lib.hid (allIn_iff.2 hx')
    clear hx'
    go_wp2_with fail
    refine (btText_any _ _ _ _ _ ho3'.ints (by omega) HX'.out).mono ?_
    rintro e w4 ⟨rfl, hb4⟩
    have hs4 : (strOfNums (digs xs')).size ≤ 100 := by rw [strOfNums_size, digs_length, ho3'.1]; omega
    generalize strOfNums (digs xs') = s at *
    have hc4 := hc3''.below hb4 hc3''.lt
    go_wp2_with fail
    refine (one_any _ _ _ hc4 (by omega) 4 (by omega) (by omega)).mono ?_
    rintro e w5 ⟨v, rfl, hc5, hg5⟩
    have hG := gtrans (gbelow (gtrans (gtrans (gtrans (gtrans hg1 hg2) hg3) hg3') hg3'') hb4) hg5
    cases v
    · go_wp2_with fail
      go_ret
      exact ⟨_, rfl, by omega, below_cur hb hG⟩
    · go_wp2_with fail
      refine (spoilt_any _ _ _ hc5 (by omega) _ _ (by omega) (by decide) (by decide)).mono ?_
      rintro e w6 ⟨u, rfl, hu, hc6, hg6⟩
      go_wp2_with fail
      go_ret
      exact ⟨_, rfl, by omega, below_cur hb (gtrans hG hg6)⟩
end Go.Proofs.Ytnpndpmelgfmbaa
