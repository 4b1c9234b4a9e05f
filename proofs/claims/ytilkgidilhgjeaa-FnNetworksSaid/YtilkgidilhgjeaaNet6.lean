/-
  Networks applied to lists: the program's way; sorted lists; the lists of zeros and ones.
-/
import Derived.Test.YtilkgidilhgjeaaNet5
import Derived.Test.YtilkgidilhgjeaaBits2
namespace Go.Proofs.Ytilkgidilhgjeaa
open Go.RowKit

theorem take_keep {α : Type} {xs ys : List α} {k : Nat} {x : α} (hx : xs[k]? = some x) (hy : ys[k]? = some x) : xs.take k ++ ys.drop k = xs.take (k + 1) ++ ys.drop (k + 1) := by
  have hk : k < ys.length := (List.getElem?_eq_some_iff.1 hy).1
  have hyk : ys[k] = x := by rw [List.getElem?_eq_getElem hk] at hy; simpa using hy
  rw [List.take_add_one, hx, List.drop_eq_getElem_cons hk, hyk]
  simp
def orL (bs ds : List Bool) : List Bool := List.zipWith (· || ·) bs ds
theorem orL_length {bs ds : List Bool} {n : Nat} (h1 : bs.length = n) (h2 : ds.length = n) : (orL bs ds).length = n := by simp [orL, h1, h2]
theorem orL_get {bs ds : List Bool} {k : Nat} {a b : Bool} (h1 : bs[k]? = some a) (h2 : ds[k]? = some b) : (orL bs ds)[k]? = some (a || b) := by simp [orL, List.getElem?_zipWith, h1, h2]

/-- What sortWith hands back: the list behind all steps; the marks of the steps that exchange are laid. -/
def RetSw (l : List (Int × Int)) (x : List Int) (B : Nat) (mo : Option Addr) (len capm : Nat) (bs : List Bool) (w : World) (e : Ending) (w' : World) : Prop := ∃ ao n cap, e = .returned (.slice ao n cap) ∧ OwnI w.heap.size w' ao n cap (l.foldl exch x) ∧ OwnB B w' mo len capm (orL bs (didL l x)) ∧ w.grownBy w' (rowOf mo capm)
theorem below_row {B : Nat} {w w' : World} {mo : Option Addr} {n cap : Nat} {bs : List Bool} (hm : OwnB B w mo n cap bs) (hg : w.grownBy w' (rowOf mo cap)) (hB : B ≤ w.heap.size) : Below B w w' :=
  (Below.refl B w).grown hg hB fun k hk => (hm.rowLt k hk).1
theorem gbelow0 {a b c : World} {r : Option Nat} (h : a.grownBy b r) (k : Below b.heap.size b c) : a.grownBy c r :=
  ⟨k.os.trans h.os, k.tape.trans h.tape, k.output.trans h.output, Nat.le_trans h.size k.size, fun i hi hne => (k.block i (Nat.lt_of_lt_of_le hi h.size)).trans (h.block i hi hne)⟩
theorem gnew {a b c : World} {r r2 : Option Nat} (h : a.grownBy b r) (k : b.grownBy c r2) (hk : ∀ j, r2 = some j → a.heap.size ≤ j) : a.grownBy c r :=
  ⟨k.os.trans h.os, k.tape.trans h.tape, k.output.trans h.output, Nat.le_trans h.size k.size, fun i hi hne => (k.block i (Nat.lt_of_lt_of_le hi h.size) (fun e => by have := hk i e.symm; omega)).trans (h.block i hi hne)⟩
theorem sortWith_any (w : World) (n B : Nat) (ao bo mo : Option Addr) (len c d capm : Nat) (xs x : List Int) (bs : List Bool) (ha : Flat 2 w B ao len xs) (hx : Ints w w.heap.size bo n x) (hm : OwnB B w mo len capm bs) (hB : B ≤ w.heap.size) (hn : n ≤ 12) (hv : (steps xs).any (bad n) = false) :
    Calls Try.prog 72 #[.slice ao len c, .slice bo n d, .slice mo len capm] w (RetSw (steps xs) x B mo len capm bs w) := by
  have hle := ha.le
  have HV := Lib.hid hv
  have hlx := Lib.hid hx.1
  have hlb := Lib.hid hm.1
  have hsl := Lib.hid (steps_length len xs ha.1)
  have hdl := Lib.hid ((didL_length (steps xs) x).trans hsl.out)
  have hol := Lib.hid (orL_length hlb.out hdl.out)
  clear hv
  go_enter Try.func72, Try.ntmps72
  go_wp2_with (go_at_call 108; refine (cloneI_any _ _ _ _ _ _ hx (Nat.le_refl _) (by omega)).mono ?_; rintro e w1 ⟨a1, n1, c1, rfl, ho1, hb1⟩)
  obtain rfl : n1 = n := by have := ho1.1; rw [hlx.out] at this; exact this.symm
  have hm1 : OwnB B w1 mo len capm ((orL bs (didL (steps xs) x)).take 0 ++ bs.drop 0) := by simpa using hm.below hb1 (Nat.le_refl _)
  have hg1 : w.grownBy w1 (rowOf mo capm) := ⟨hb1.os, hb1.tape, hb1.output, hb1.size, fun i hi _ => hb1.block i hi⟩
  go_loopw [14] (fun i wr => ∃ k : Nat, k ≤ len ∧ i = .int .i64 k ∧ OwnI w.heap.size wr a1 n1 c1 (((steps xs).take k).foldl exch x) ∧ OwnB B wr mo len capm ((orL bs (didL (steps xs) x)).take k ++ bs.drop k) ∧ w.grownBy wr (rowOf mo capm)) (fun i _ => len - (intOf i).toNat)
  case atStart => exact ⟨0, Nat.zero_le _, rfl, by simpa using ho1, hm1, hg1⟩
  case round =>
    obtain ⟨k, hk, rfl, hout, hmk, hgr⟩ := hrel
    by_cases hlt : k < len
    · obtain ⟨b1, o1, i1, j1, rfl, hbb, hst, c0, c1'⟩ := ha.step hlt
      have hbB : Below B w wr := below_row hm hgr hB
      have g0 : wr.cell? ⟨b1, o1 + k * 2, none⟩ = some (.int .i64 i1) := (hbB.cell (by exact hbb)).trans c0
      have g1 : wr.cell? ⟨b1, o1 + k * 2 + 1, none⟩ = some (.int .i64 j1) := (hbB.cell (by exact hbb)).trans c1'
      obtain ⟨q1, q2, q3⟩ := good_at HV.out hst
      obtain ⟨a, rfl⟩ := Int.eq_ofNat_of_zero_le q1
      obtain ⟨b, rfl⟩ := Int.eq_ofNat_of_zero_le (show 0 ≤ j1 by omega)
      have HF := Lib.hid (fold_step hst x)
      have HD := Lib.hid (didL_get _ x _ _ hst)
      obtain ⟨o, ho⟩ : ∃ o, o = ((steps xs).take k).foldl exch x := ⟨_, rfl⟩
      rw [← ho] at hout HF HD
      have hol2 := Lib.hid hout.1
      clear hst c0 c1' ho
      have hal0 : Below wr.heap.size wr (wr.alloc (.cells #[.int .i64 (a : Int), .int .i64 (b : Int)] 62)) := (Below.refl _ _).alloc (Nat.le_refl _) _
      have hgr2 : w.grownBy (wr.alloc (.cells #[.int .i64 (a : Int), .int .i64 (b : Int)] 62)) (rowOf mo capm) := gbelow0 hgr hal0
      have hout2 := hout.below hal0 (Nat.le_refl _)
      have hmk2 := hmk.below hal0 (Nat.le_refl _)
      obtain ⟨g, rfl, hgB, hglt⟩ : ∃ g, a1 = some ⟨g, 0, none⟩ ∧ w.heap.size ≤ g ∧ g < wr.heap.size := by
        obtain ⟨g, h1, h2, h3, _⟩ := hout.2.2.some (by omega)
        exact ⟨g, h1, h2, h3⟩
      obtain ⟨gm, rfl, hgmB, hgmlt⟩ := hm.blk (by omega)
      obtain ⟨u, hu⟩ := get_at (i := a) hol2.out (by omega)
      obtain ⟨v, hv⟩ := get_at (i := b) hol2.out (by omega)
      obtain ⟨vb, hvb⟩ := get_at (i := k) hlb.out hlt
      have hbx := heap_alloc_new wr (.cells #[.int .i64 (a : Int), .int .i64 (b : Int)] 62)
      have hne : gm ≠ g := by omega
      by_cases hlt2 : v < u
      · go_wp2_with fail
        generalize wr.alloc (.cells #[.int .i64 (a : Int), .int .i64 (b : Int)] 62) = W2 at *
        have x0 : W2.cell? ⟨wr.heap.size, 0, none⟩ = some (.int .i64 (a : Int)) := by rw [cell_of_row W2 _ 0 _ _ (0, 0) hbx]; rfl
        have x1 : W2.cell? ⟨wr.heap.size, 1, none⟩ = some (.int .i64 (b : Int)) := by rw [cell_of_row W2 _ 1 _ _ (0, 0) hbx]; rfl
        have y0 := hout2.cell hu
        have y1 := hout2.cell hv
        go_quiet (fail)
        go_wp2_with fail
        have hout3 : OwnI w.heap.size (W2.drewN nq) (some ⟨g, 0, none⟩) n1 c1 o := hout2
        have hmk3 : OwnB B (W2.drewN nq) (some ⟨gm, 0, none⟩) len capm _ := hmk2
        have hgr3 : w.grownBy (W2.drewN nq) (rowOf (some ⟨gm, 0, none⟩) capm) := ⟨hgr2.os, hgr2.tape, hgr2.output, hgr2.size, hgr2.block⟩
        have x0 : (W2.drewN nq).cell? ⟨wr.heap.size, 0, none⟩ = some (.int .i64 (a : Int)) := x0
        have x1 : (W2.drewN nq).cell? ⟨wr.heap.size, 1, none⟩ = some (.int .i64 (b : Int)) := x1
        clear hout2 hmk2 hgr2 hal0 hbx y0 y1
        generalize W2.drewN nq = W3 at *
        obtain ⟨s1, s2, f1⟩ := hout3.set (k := a) (by omega) v
        obtain ⟨s3, s4, f2⟩ := s1.set (k := b) (by omega) u
        have y0 := hout3.cell hu
        have y1 := hout3.cell hv
        obtain ⟨z, hz⟩ := get_at (i := b) s1.1 (by omega)
        have y2 := s1.cell hz
        have hap : ∀ p q, rowOf (some (⟨gm, 0, none⟩ : Addr)) capm = some p → rowOf (some (⟨g, 0, none⟩ : Addr)) c1 = some q → p ≠ q := by
          intro p q hp hq
          simp only [rowOf] at hp hq
          split at hp <;> split at hq <;> simp_all
        have hge : ∀ j, rowOf (some (⟨g, 0, none⟩ : Addr)) c1 = some j → w.heap.size ≤ j := by
          intro j hj
          simp only [rowOf] at hj
          split at hj <;> simp_all
        have m1 := (hmk3.other s2 hap).other s4 hap
        have G1 := gnew (gnew hgr3 s2 hge) s4 hge
        go_region
        all_goals
          have s5 : OwnI w.heap.size ((W3.setCell ⟨g, a, none⟩ (.int .i64 v)).setCell ⟨g, b, none⟩ (.int .i64 u)).drew (some ⟨g, 0, none⟩) n1 c1 _ := s3
          have m5 : OwnB B ((W3.setCell ⟨g, a, none⟩ (.int .i64 v)).setCell ⟨g, b, none⟩ (.int .i64 u)).drew (some ⟨gm, 0, none⟩) len capm _ := m1
          have G5 : w.grownBy ((W3.setCell ⟨g, a, none⟩ (.int .i64 v)).setCell ⟨g, b, none⟩ (.int .i64 u)).drew (rowOf (some ⟨gm, 0, none⟩) capm) := ⟨G1.os, G1.tape, G1.output, G1.size, G1.block⟩
          clear y0 y1 y2 s1 s2 s3 s4 m1 G1 hout3 hmk3 hgr3 f1 f2 x0 x1
          generalize ((W3.setCell ⟨g, a, none⟩ (.int .i64 v)).setCell ⟨g, b, none⟩ (.int .i64 u)).drew = W5 at *
          obtain ⟨m6, m7, f3, y3⟩ := m5.set hlt true
          have hd := HD.out
          rw [did_eq hu hv, decide_eq_true hlt2] at hd
          have ho := orL_get hvb hd
          rw [Bool.or_true] at ho
          rw [take_set (hlb.out.trans hol.out.symm) ho] at m6
          have HU := Lib.hid hu
          have HV2 := Lib.hid hv
          clear hu hv hvb hd ho hz
          go_wp2_with fail
          go_roundw
          case rel => exact ⟨k + 1, by omega, by go_num, by rw [HF.out, exch_yes HU.out HV2.out hlt2]; exact s5.other m7 (fun p q hp hq => (hap q p hq hp).symm), m6, gtrans0 G5 m7⟩
          case measure => simp [intOf] <;> omega
      · have hge : u ≤ v := by omega
        go_wp2_with fail
        generalize wr.alloc (.cells #[.int .i64 (a : Int), .int .i64 (b : Int)] 62) = W2 at *
        have x0 : W2.cell? ⟨wr.heap.size, 0, none⟩ = some (.int .i64 (a : Int)) := by rw [cell_of_row W2 _ 0 _ _ (0, 0) hbx]; rfl
        have x1 : W2.cell? ⟨wr.heap.size, 1, none⟩ = some (.int .i64 (b : Int)) := by rw [cell_of_row W2 _ 1 _ _ (0, 0) hbx]; rfl
        have y0 := hout2.cell hu
        have y1 := hout2.cell hv
        have HU := Lib.hid hu
        have HV2 := Lib.hid hv
        have hd := HD.out
        rw [did_eq hu hv, decide_eq_false (show ¬ v < u by omega)] at hd
        have ho := orL_get hvb hd
        rw [Bool.or_false] at ho
        rw [take_keep ho hvb] at hmk2
        clear hu hv hd hvb ho
        go_quiet (fail)
        go_wp2_with fail
        go_roundw
        case rel => exact ⟨k + 1, by omega, by go_num, by rw [HF.out, exch_no HU.out HV2.out (by omega)]; exact hout2, hmk2, ⟨hgr2.os, hgr2.tape, hgr2.output, hgr2.size, hgr2.block⟩⟩
        case measure => simp [intOf] <;> omega
    · obtain rfl : k = len := by omega
      go_wp2_with fail
      go_ret
      rw [List.take_of_length_le (by rw [hsl.out]; exact Nat.le_refl _)] at hout
      rw [List.take_of_length_le (by rw [hol.out]; exact Nat.le_refl _), List.drop_of_length_le (by rw [hlb.out]; exact Nat.le_refl _), List.append_nil] at hmk
      exact ⟨_, _, _, rfl, hout, hmk, hgr⟩
end Go.Proofs.Ytilkgidilhgjeaa
