/-
  Networks applied to lists: the reference's way.
-/
import Derived.Test.YtilkgidilhgjeaaNet4
namespace Go.Proofs.Ytilkgidilhgjeaa
open Go.RowKit

/-- What soWith hands back: the list behind all steps; which steps exchange. -/
def RetSo (l : List (Int × Int)) (x : List Int) (w : World) (e : Ending) (w' : World) : Prop := ∃ ao n cap bo m capb, e = .returned (.tuple #[.slice ao n cap, .slice bo m capb]) ∧ OwnI w.heap.size w' ao n cap (l.foldl exch x) ∧ OwnB w.heap.size w' bo m capb (didL l x) ∧ Below w.heap.size w w'
theorem soWith_any (w : World) (n : Nat) (ao bo : Option Addr) (len c d : Nat) (xs x : List Int) (ha : Flat 2 w w.heap.size ao len xs) (hx : Ints w w.heap.size bo n x) (hn : n ≤ 12) (hv : (steps xs).any (bad n) = false) :
    Calls Try.prog 74 #[.slice ao len c, .slice bo n d] w (RetSo (steps xs) x w) := by
  have hle := ha.le
  have HV := Lib.hid hv
  have hlx := Lib.hid hx.1
  have hsl := Lib.hid (steps_length len xs ha.1)
  clear hv
  obtain ⟨i0, hi, hz0, hz1, hz2⟩ := info_parts bool_info
  go_enter Try.func74, Try.ntmps74
  go_wp2_with (first | (go_at_call 109; refine (l1Own_any _ _ _ _ _ _ hx (Nat.le_refl _) (by omega)).mono ?_; rintro e w1 ⟨a1, n1, c1, rfl, ho1, hb1⟩) | (at_make; refine wpList_make_full _ rfl _ _ 101 rfl w.heap.size 4 i0 (.bool false) 1 Try.underlying101 hi hz0 hz1 _ _ _ _ len rfl rfl rfl rfl (by rw [hz2]; omega) (by unfold maxLen; omega) hb1.size ?_; intro w2 hown2 hg2))
  rw [show (Value.bool false).cells = #[.bool false] from rfl, toList_madeCells_one, Nat.mul_one, show List.replicate len (Value.bool false) = ((didL (steps xs) x).take 0 ++ List.replicate (len - 0) false).map Value.bool from by simp] at hown2
  obtain rfl : n1 = n := by have := ho1.1; rw [hlx.out] at this; exact this.symm
  have hra := ho1.rowLt
  have ho2 := ho1.other hg2 (by simp)
  have hb2 : Below w.heap.size w w2 := hb1.grown hg2 hb1.size (by simp)
  have hdl := Lib.hid ((didL_length (steps xs) x).trans hsl.out)
  have hm2 : OwnB w.heap.size w2 (some ⟨w1.heap.size, 0, none⟩) len len ((didL (steps xs) x).take 0 ++ List.replicate (len - 0) false) := ⟨by simp, hle, .inr ⟨_, rfl, hown2⟩⟩
  have hz1 := hb1.size
  clear hown2 hi hz0 hz1 hz2
  go_loopw [19] (fun i wr => ∃ k : Nat, k ≤ len ∧ i = .int .i64 k ∧ OwnI w.heap.size wr a1 n1 c1 (((steps xs).take k).foldl exch x) ∧ OwnB w.heap.size wr (some ⟨w1.heap.size, 0, none⟩) len len ((didL (steps xs) x).take k ++ List.replicate (len - k) false) ∧ Below w.heap.size w wr) (fun i _ => len - (intOf i).toNat)
  case atStart => exact ⟨0, Nat.zero_le _, rfl, by simpa using ho2, hm2, hb2⟩
  case round =>
    obtain ⟨k, hk, rfl, hout, hmk, hbel⟩ := hrel
    by_cases hlt : k < len
    · obtain ⟨b1, o1, i1, j1, rfl, hbb, hst, c0, c1'⟩ := ha.step hlt
      have g0 : wr.cell? ⟨b1, o1 + k * 2, none⟩ = some (.int .i64 i1) := (hbel.cell (by exact hbb)).trans c0
      have g1 : wr.cell? ⟨b1, o1 + k * 2 + 1, none⟩ = some (.int .i64 j1) := (hbel.cell (by exact hbb)).trans c1'
      obtain ⟨q1, q2, q3⟩ := good_at HV.out hst
      obtain ⟨a, rfl⟩ := Int.eq_ofNat_of_zero_le q1
      obtain ⟨b, rfl⟩ := Int.eq_ofNat_of_zero_le (show 0 ≤ j1 by omega)
      have HF := Lib.hid (fold_step hst x)
      have HD := Lib.hid (didL_get _ x _ _ hst)
      obtain ⟨o, ho⟩ : ∃ o, o = ((steps xs).take k).foldl exch x := ⟨_, rfl⟩
      rw [← ho] at hout HF HD
      have hol := Lib.hid hout.1
      clear hst c0 c1' ho
      have hal : Below w.heap.size wr (wr.alloc (.cells #[.int .i64 (a : Int), .int .i64 (b : Int)] 62)) := (Below.refl _ _).alloc hbel.size _
      have hal0 : Below wr.heap.size wr (wr.alloc (.cells #[.int .i64 (a : Int), .int .i64 (b : Int)] 62)) := (Below.refl _ _).alloc (Nat.le_refl _) _
      have hout2 := hout.below hal0 (Nat.le_refl _)
      have hmk2 := hmk.below hal0 (Nat.le_refl _)
      obtain ⟨g, rfl, hgB, hglt⟩ : ∃ g, a1 = some ⟨g, 0, none⟩ ∧ w.heap.size ≤ g ∧ g < wr.heap.size := by
        obtain ⟨g, h1, h2, h3, _⟩ := hout.2.2.some (by omega)
        exact ⟨g, h1, h2, h3⟩
      obtain ⟨u, hu⟩ := get_at (i := a) hol.out (by omega)
      obtain ⟨v, hv⟩ := get_at (i := b) hol.out (by omega)
      have hbx := heap_alloc_new wr (.cells #[.int .i64 (a : Int), .int .i64 (b : Int)] 62)
      by_cases hlt2 : v < u
      · go_wp2_with fail
        generalize wr.alloc (.cells #[.int .i64 (a : Int), .int .i64 (b : Int)] 62) = W2 at *
        have x0 : W2.cell? ⟨wr.heap.size, 0, none⟩ = some (.int .i64 (a : Int)) := by rw [cell_of_row W2 _ 0 _ _ (0, 0) hbx]; rfl
        have x1 : W2.cell? ⟨wr.heap.size, 1, none⟩ = some (.int .i64 (b : Int)) := by rw [cell_of_row W2 _ 1 _ _ (0, 0) hbx]; rfl
        have y0 := hout2.cell hu
        have y1 := hout2.cell hv
        have hmlt : w1.heap.size ≠ g := by
          intro e
          subst e
          have hc : rowOf (some ⟨w1.heap.size, 0, none⟩) c1 = some w1.heap.size := by
            have hcap : c1 ≠ 0 := by
              obtain ⟨_, _, _, _, hr⟩ := hout2.2.2.some (by omega)
              intro h0
              subst h0
              rcases hr.2 with ⟨hv, h0⟩ | ⟨g2, cap2, cur, hv, _, _, hn', _⟩
              · omega
              · simp only [Value.slice.injEq] at hv
                obtain ⟨_, _, rfl⟩ := hv
                omega
            simp [rowOf, hcap]
          have := (hra _ hc).2
          omega
        obtain ⟨z1, z2, f1⟩ := hout2.set (k := a) (by omega) v
        obtain ⟨_, _, f2⟩ := hout2.set (k := b) (by omega) v
        obtain ⟨_, _, f3, y2⟩ := hmk2.set hlt true
        clear z1 z2
        go_quiet (fail)
        go_wp2_with fail
        go_roundw
        case rel =>
          obtain ⟨z1, z2, _⟩ := (show OwnI w.heap.size (W2.drewN nq) (some ⟨g, 0, none⟩) n1 c1 o from hout2).set (k := a) (by omega) v
          obtain ⟨z3, z4, _⟩ := z1.set (k := b) (by omega) u
          have m1 := ((show OwnB w.heap.size (W2.drewN nq) (some ⟨w1.heap.size, 0, none⟩) len len _ from hmk2).other z2 (by
            intro p q hp hq; simp only [rowOf] at hp hq; split at hp <;> split at hq <;> simp_all)).other z4 (by
            intro p q hp hq; simp only [rowOf] at hp hq; split at hp <;> split at hq <;> simp_all)
          obtain ⟨m2, m3, _⟩ := m1.set hlt true
          have z5 := z3.other m3 (by intro p q hp hq; simp only [rowOf] at hp hq; split at hp <;> split at hq <;> simp_all <;> omega)
          have hd := HD.out
          rw [did_eq hu hv, decide_eq_true hlt2] at hd
          rw [did_set hdl.out hlt hd] at m2
          have B0 : Below w.heap.size w (W2.drewN nq) := bdrewN (hbel.trans hal) nq
          have B1 := below_set B0 (show OwnI w.heap.size (W2.drewN nq) (some ⟨g, 0, none⟩) n1 c1 o from hout2) z2 B0.size
          have B2 := below_set B1 z1 z4 B1.size
          have B3 := below_append B2 m1.2.2 m3 B2.size
          exact ⟨k + 1, by omega, by go_num, by rw [HF.out, exch_yes hu hv hlt2]; exact z5, m2, B3⟩
        case measure => simp [intOf] <;> omega
      · have hge : u ≤ v := by omega
        go_wp2_with fail
        generalize wr.alloc (.cells #[.int .i64 (a : Int), .int .i64 (b : Int)] 62) = W2 at *
        have x0 : W2.cell? ⟨wr.heap.size, 0, none⟩ = some (.int .i64 (a : Int)) := by rw [cell_of_row W2 _ 0 _ _ (0, 0) hbx]; rfl
        have x1 : W2.cell? ⟨wr.heap.size, 1, none⟩ = some (.int .i64 (b : Int)) := by rw [cell_of_row W2 _ 1 _ _ (0, 0) hbx]; rfl
        have y0 := hout2.cell hu
        have y1 := hout2.cell hv
        have HU := Lib.hid hu
        have HV2 := Lib.hid hv
        have hd := HD.out
        rw [did_eq hu hv, decide_eq_false (show ¬ v < u by omega)] at hd
        rw [did_keep hdl.out hlt hd] at hmk2
        clear hu hv hd
        go_quiet (fail)
        go_wp2_with fail
        go_roundw
        case rel => exact ⟨k + 1, by omega, by go_num, by rw [HF.out, exch_no HU.out HV2.out (by omega)]; exact hout2, hmk2, bdrewN (hbel.trans hal) nq⟩
        case measure => simp [intOf] <;> omega
    · obtain rfl : k = len := by omega
      go_wp2_with fail
      go_ret2
      rw [List.take_of_length_le (by rw [hsl.out]; exact Nat.le_refl _)] at hout
      rw [List.take_of_length_le (by rw [hdl.out]; exact Nat.le_refl _), Nat.sub_self, List.replicate_zero, List.append_nil] at hmk
      exact ⟨_, _, _, _, _, _, rfl, hout, hmk, hbel⟩
end Go.Proofs.Ytilkgidilhgjeaa
