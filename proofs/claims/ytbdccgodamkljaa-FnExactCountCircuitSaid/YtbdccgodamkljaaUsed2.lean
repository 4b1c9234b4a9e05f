/-
  Circuits: the wires that are used.
-/
import Derived.Test.YtbdccgodamkljaaUsed1
namespace Go.Proofs.Ytbdccgodamkljaa
open Go.RowKit
set_option linter.unusedVariables false
set_option linter.unusedSimpArgs false

/-- A slice of bools that the call owns. -/
def OwnB (B : Nat) (w : World) (ao : Option Addr) (n cap : Nat) (bs : List Bool) : Prop := bs.length = n ∧ n ≤ 1000000000 ∧ OwnC 4 1 B w ao n cap (bs.map Value.bool)
section
variable {w w' : World} {B C : Nat} {ao : Option Addr} {n cap g : Nat} {bs : List Bool}
theorem OwnB.below (h : OwnB B w ao n cap bs) (hb : Below C w w') (hC : w.heap.size ≤ C) : OwnB B w' ao n cap bs := ⟨h.1, h.2.1, h.2.2.below hb hC⟩
theorem OwnB.up (h : OwnB B w ao n cap bs) (hC : C ≤ B) : OwnB C w ao n cap bs := ⟨h.1, h.2.1, h.2.2.up hC⟩
theorem OwnB.rowLt (h : OwnB B w ao n cap bs) : ∀ k, rowOf ao cap = .some k → B ≤ k ∧ k < w.heap.size := h.2.2.rowLt
theorem OwnB.other {row : Option Nat} (h : OwnB B w ao n cap bs) (hg : w.grownBy w' row) (hne : ∀ k l, rowOf ao cap = .some k → row = .some l → k ≠ l) : OwnB B w' ao n cap bs := by
  refine ⟨h.1, h.2.1, h.2.2.kept hg fun g hao hc he => ?_⟩
  subst hao
  exact hne g g (by simp [rowOf, hc]) he rfl
theorem OwnB.blk (h : OwnB B w ao n cap bs) (hn : 0 < n) : ∃ g, ao = some ⟨g, 0, none⟩ ∧ B ≤ g ∧ g < w.heap.size := by
  obtain ⟨g, h1, h2, h3, _⟩ := h.2.2.some hn
  exact ⟨g, h1, h2, h3⟩
theorem OwnB.set (h : OwnB B w (some ⟨g, 0, none⟩) n cap bs) {k : Nat} (hk : k < n) (v : Bool) :
    OwnB B (w.setCell ⟨g, k, none⟩ (.bool v)) (some ⟨g, 0, none⟩) n cap (bs.set k v) ∧ w.grownBy (w.setCell ⟨g, k, none⟩ (.bool v)) (rowOf (some ⟨g, 0, none⟩) cap) ∧ w.frozen? ⟨g, k, none⟩ = false ∧ w.cell? ⟨g, k, none⟩ = some (.bool (bs.getD k false)) := by
  obtain ⟨g', hg', _, _, hr⟩ := h.2.2.some (by omega)
  simp at hg'
  subst hg'
  have hcap : cap ≠ 0 := by
    rcases hr.2 with ⟨hv, h0⟩ | ⟨g2, cap2, cur, hv, _, _, hn', _⟩
    · omega
    · simp only [Value.slice.injEq] at hv
      obtain ⟨_, _, rfl⟩ := hv
      omega
  have hst := World.ownsRow.stored hr k (.bool v)
  rw [← List.map_set] at hst
  refine ⟨⟨by simp [h.1], h.2.1, .inr ⟨g, rfl, hst.1⟩⟩, by simpa [rowOf, hcap] using hst.2, World.ownsRow.frozenAt hr k, ?_⟩
  rw [World.ownsRow.cellAt hr k (by omega)]
  have : k < bs.length := by rw [h.1]; exact hk
  simp [List.getD, this]
end

theorem OwnB.cell {B : Nat} {w : World} {g n cap : Nat} {bs : List Bool} (h : OwnB B w (some ⟨g, 0, none⟩) n cap bs) {k : Nat} {x : Bool} (hx : bs[k]? = some x) : w.cell? ⟨g, k, none⟩ = some (.bool x) := by
  have hk : k < n := by rw [← h.1]; exact (List.getElem?_eq_some_iff.1 hx).1
  obtain ⟨_, _, _, hc⟩ := h.set hk true
  rw [hc]
  simp [List.getD, hx]
theorem bool_info : (Try.prog.info? 4).map (fun i => (i.zero, i.size, i.bytes)) = some (some (.bool false), 1, 1) := by kernel_rfl
theorem made_bools {B : Nat} {w : World} {b n : Nat} (hn : n ≤ 1000000000) (h : w.ownsRow B 4 1 (.slice (some ⟨b, 0, none⟩) n n) n (madeCells (Value.bool false).cells (n * 1)).toList) : OwnB B w (some ⟨b, 0, none⟩) n n (List.replicate n false) := by
  rw [show (Value.bool false).cells = #[.bool false] from rfl, toList_madeCells_one, Nat.mul_one] at h
  exact ⟨by simp, hn, .inr ⟨_, rfl, by simpa using h⟩⟩
/-- One gate marks its parts, if it is marked. -/
def markG (m : List Bool) (own : Nat) (g : Int × Int × Int) : List Bool :=
  if m.getD own false = true then (if g.1 = 0 ∨ g.1 = 1 then (m.set g.2.1.toNat true).set g.2.2.toNat true else if g.1 = 2 then m.set g.2.1.toNat true else m) else m
theorem markG_length (m : List Bool) (own : Nat) (g : Int × Int × Int) : (markG m own g).length = m.length := by
  unfold markG; split <;> (try split) <;> (try split) <;> simp
def backK (l : List (Int × Int × Int)) (n0 : Nat) : Nat → List Bool → List Bool
  | 0, m => m
  | k + 1, m => backK l n0 k (markG m (n0 + k) (l.getD k (0, 0, 0)))
def outsM (n : Nat) (os : List Int) : List Bool := os.foldl (fun m i => m.set i.toNat true) (List.replicate n false)
theorem outsM_step {n : Nat} {os : List Int} {k : Nat} {x : Int} (h : os[k]? = some x) : outsM n (os.take (k + 1)) = (outsM n (os.take k)).set x.toNat true := by
  rw [outsM, outsM, List.take_add_one, h]; simp [List.foldl_append]
theorem outsM_length (n : Nat) (os : List Int) : (outsM n os).length = n := by
  have : ∀ (os : List Int) (m : List Bool), (os.foldl (fun m i => m.set i.toNat true) m).length = m.length := by
    intro os
    induction os with
    | nil => intro m; rfl
    | cons x r ih => intro m; rw [List.foldl_cons, ih]; simp
  rw [outsM, this]; simp
def usedM (n0 : Nat) (l : List (Int × Int × Int)) (os : List Int) : List Bool := backK l n0 l.length (outsM (n0 + l.length) os)
theorem tp_false (k : Int) (n : Nat) : tp k (List.replicate n false) = [] := by
  induction n generalizing k with
  | zero => rfl
  | succ n ih => simp [List.replicate_succ, tp, ih]
theorem tp_length : ∀ (k : Int) (m : List Bool), (tp k m).length ≤ m.length
  | _, [] => by simp [tp]
  | k, b :: r => by
    have := tp_length (k + 1) r
    cases b <;> simp [tp] <;> omega
theorem tp_snoc : ∀ (m : List Bool) (k : Int) (b : Bool), tp k (m ++ [b]) = tp k m ++ (if b = true then [k + m.length] else [])
  | [], k, b => by cases b <;> simp [tp]
  | c :: r, k, b => by
    have ih := tp_snoc r (k + 1) b
    cases c
    · simp only [List.cons_append, tp, Bool.false_eq_true, if_false, ih, List.length_cons]
      rw [show k + 1 + (r.length : Int) = k + ((r.length + 1 : Nat) : Int) from by omega]
    · simp only [List.cons_append, tp, if_true, ih, List.length_cons]
      rw [show k + 1 + (r.length : Int) = k + ((r.length + 1 : Nat) : Int) from by omega]
theorem tp_take {m : List Bool} {j : Nat} {b : Bool} (h : m[j]? = some b) : tp 0 (m.take (j + 1)) = tp 0 (m.take j) ++ (if b = true then [(j : Int)] else []) := by
  have hj : j < m.length := (List.getElem?_eq_some_iff.1 h).1
  rw [List.take_add_one, h]
  rw [show (some b).toList = [b] from rfl, tp_snoc]
  simp [show min j m.length = j by omega]
def RetBs (bs : List Bool) (w : World) (e : Ending) (w' : World) : Prop := ∃ ao n cap, e = .returned (.slice ao n cap) ∧ OwnB w.heap.size w' ao n cap bs ∧ Below w.heap.size w w'
theorem OwnB.le {B : Nat} {w : World} {ao : Option Addr} {n cap : Nat} {bs : List Bool} (h : OwnB B w ao n cap bs) : n ≤ 1000000000 := h.2.1
theorem used_any (w : World) (i0 i1 : Nat) (ga oa : Option Addr) (gn gc on oc : Nat) (gs os : List Int) (hg : Flat 3 w w.heap.size ga gn gs) (ho : Ints w w.heap.size oa on os) (h0 : i0 ≤ 20) (h1 : i1 ≤ 20) (hgn : gn ≤ 300) (hon : on ≤ 40)
    (hok : okG (gts gs) ((i0 + i1 : Nat) : Int) = true) (hin : allIn 0 (((i0 + i1 + gn : Nat) : Int) - 1) os = true) :
    Calls Try.prog 100 #[circV (i0 : Int) (i1 : Int) ga gn gc oa on oc] w (RetBs (usedM (i0 + i1) (gts gs) os) w) := by
  have hb0 : Below w.heap.size w (w.alloc (.cells #[.int .i64 (i0 : Int), .int .i64 (i1 : Int), .slice ga gn gc, .slice oa on oc] 30)) := (Below.refl _ _).alloc (Nat.le_refl _) _
  have hbx := boxC_new w (i0 : Int) (i1 : Int) ga gn gc oa on oc 30
  have hsz : w.heap.size < (w.alloc (.cells #[.int .i64 (i0 : Int), .int .i64 (i1 : Int), .slice ga gn gc, .slice oa on oc] 30)).heap.size := by simp
  have HOK := Lib.hid hok
  have HIN := Lib.hid (allIn_iff.1 hin)
  have hol := Lib.hid ho.1
  have hml := Lib.hid (gts_length gn gs hg.1)
  have HR0 : Hid (inB (i0 : Int) 0 20 = true) := by show _ = _; rw [inB_iff]; omega
  have HR1 : Hid (inB (i1 : Int) 0 20 = true) := by show _ = _; rw [inB_iff]; omega
  clear hok hin
  obtain ⟨i0', hi, hz0, hz1, hz2⟩ := info_parts bool_info
  unfold circV
  go_enter Try.func100, Try.ntmps100
  go_wp2_with fail
  generalize (w.alloc (.cells #[.int .i64 (i0 : Int), .int .i64 (i1 : Int), .slice ga gn gc, .slice oa on oc] 30)) = w0 at *
  refine (wires_any _ _ _ _ _ _ _ _ _ HR0.out HR1.out (by omega)).mono ?_
  rintro e w1 ⟨rfl, hb1⟩
  have hbw1 := hb0.trans (hb1.mono hb0.size)
  have hsz1 := Nat.lt_of_lt_of_le hsz hb1.size
  have hbx1 := Lib.hid (hbx.below hb1 hsz)
  go_wp2_with (at_make; refine wpList_make_full _ rfl _ _ 98 rfl w1.heap.size 4 i0' (.bool false) 1 Try.underlying98 hi hz0 hz1 _ _ _ _ (i0 + i1 + gn) rfl rfl (by omega) (by omega) (by rw [hz2]; omega) (by unfold maxLen; omega) (Nat.le_refl _) ?_; intro w2 hown2 hg2; obtain ⟨e0, e1, e2, e3⟩ := hbx1.out.below ((Below.refl _ _).grown hg2 (Nat.le_refl _) (by simp)) hsz1)
  replace hown2 := made_bools (by omega) hown2
  have hb2 : Below w1.heap.size w1 w2 := (Below.refl _ _).grown hg2 (Nat.le_refl _) (by simp)
  clear hi hz0 hz1 hz2 hg2
  go_loopw [14] (fun i wr => ∃ k : Nat, k ≤ on ∧ i = .int .i64 k ∧ OwnB w1.heap.size wr (some ⟨w1.heap.size, 0, none⟩) (i0 + i1 + gn) (i0 + i1 + gn) (outsM (i0 + i1 + gn) (os.take k)) ∧ Below w1.heap.size w1 wr) (fun i _ => on - (intOf i).toNat)
  case atStart => exact ⟨0, Nat.zero_le _, rfl, by simpa [outsM] using hown2, hb2⟩
  case round =>
    obtain ⟨k, hk, rfl, hmk, hbel⟩ := hrel
    have hbelw := hbw1.trans (hbel.mono hbw1.size)
    by_cases hlt : k < on
    · obtain ⟨b1, o1, x, rfl, hbb, hx, q1⟩ := ho.at hlt
      have hxx := HIN.out x (List.mem_of_getElem? hx)
      obtain ⟨j, rfl⟩ := Int.eq_ofNat_of_zero_le hxx.1
      have g1 : wr.cell? ⟨b1, o1 + k, none⟩ = some (.int .i64 (j : Int)) := (hbelw.cell (by exact hbb)).trans q1
      have HS := Lib.hid (outsM_step (n := i0 + i1 + gn) hx)
      have hj : j < i0 + i1 + gn := by omega
      obtain ⟨m6, m7, f1, y1⟩ := hmk.set hj true
      have HM6 := Lib.hid m6
      have HM7 := Lib.hid m7
      clear hx q1 m6 m7 hxx
      go_wp2_with fail
      go_roundw
      case rel => exact ⟨k + 1, by omega, by go_num, by rw [HS.out]; exact HM6.out, below_append hbel hmk.2.2 HM7.out hbel.size⟩
      case measure => simp [intOf] <;> omega
    · obtain rfl : k = on := by omega
      rw [List.take_of_length_le (by rw [hol.out]; exact Nat.le_refl _)] at hmk
      obtain ⟨e0, e1, e2, e3⟩ := hbx1.out.below hbel hsz1
      go_wp2_with fail
      obtain ⟨wq, rfl⟩ : ∃ wq : World, wq = wr := ⟨_, rfl⟩
      go_loopw [6] (fun i wr => ∃ (j : Nat) (m : List Bool), j ≤ gn ∧ i = .int .i64 ((j : Int) - 1) ∧ OwnB w1.heap.size wr (some ⟨w1.heap.size, 0, none⟩) (i0 + i1 + gn) (i0 + i1 + gn) m ∧ Hid (backK (gts gs) (i0 + i1) j m = usedM (i0 + i1) (gts gs) os) ∧ Below w1.heap.size w1 wr) (fun i _ => (intOf i + 1).toNat)
      case atStart => exact ⟨gn, _, Nat.le_refl _, rfl, hmk, by show _ = _; rw [usedM, hml.out], hbel⟩
      case round =>
        obtain ⟨j, m, hj, rfl, hmk, hfin, hbr⟩ := hrel
        have hbrw := hbw1.trans (hbr.mono hbw1.size)
        obtain ⟨e0, e1, e2, e3⟩ := hbx1.out.below hbr hsz1
        by_cases hp : 0 < j
        · obtain ⟨j, rfl⟩ : ∃ q, j = q + 1 := ⟨j - 1, by omega⟩
          obtain ⟨b2, o2, kx, y, z, rfl, hbb2, hgk, q0, q1, q2⟩ := hg.gate (k := j) (by omega)
          have g0 : wr.cell? ⟨b2, o2 + j * 3, none⟩ = some (.int .i64 kx) := (hbrw.cell (by exact hbb2)).trans q0
          have g1 : wr.cell? ⟨b2, o2 + j * 3 + 1, none⟩ = some (.int .i64 y) := (hbrw.cell (by exact hbb2)).trans q1
          have g2 : wr.cell? ⟨b2, o2 + j * 3 + 2, none⟩ = some (.int .i64 z) := (hbrw.cell (by exact hbb2)).trans q2
          have hgb := okG_at _ _ _ _ HOK.out hgk
          have hkx := gateB_kind hgb
          have HSTEP : Hid (backK (gts gs) (i0 + i1) (j + 1) m = backK (gts gs) (i0 + i1) j (markG m (i0 + i1 + j) (kx, y, z))) := by
            show _ = _
            rw [backK, show (gts gs).getD j (0, 0, 0) = (kx, y, z) from by simp [List.getD, hgk]]
          have hlen := hmk.1
          obtain ⟨mb, hmb⟩ := get_at (i := i0 + i1 + j) hlen (by omega)
          have HMB : Hid (m.getD (i0 + i1 + j) false = mb) := by show _ = _; simp [List.getD, hmb]
          have hal : Below wr.heap.size wr (wr.alloc (.cells #[.int .i64 kx, .int .i64 y, .int .i64 z] 68)) := (Below.refl _ _).alloc (Nat.le_refl _) _
          have hbr2 := hbr.trans (hal.mono hbr.size)
          have hmk2 := hmk.below hal (Nat.le_refl _)
          have HBG := Lib.hid (heap_alloc_new wr (.cells #[.int .i64 kx, .int .i64 y, .int .i64 z] 68))
          have hszg : wr.heap.size < (wr.alloc (.cells #[.int .i64 kx, .int .i64 y, .int .i64 z] 68)).heap.size := by simp
          have hbxg := Lib.hid (hbx1.out.below hbr2 hsz1)
          clear q0 q1 q2 hgk
          obtain ⟨W2, hW2⟩ : ∃ W2, W2 = wr.alloc (.cells #[.int .i64 kx, .int .i64 y, .int .i64 z] 68) := ⟨_, rfl⟩
          rw [← hW2] at hal hbr2 hmk2 HBG hszg hbxg
          have HW2 := Lib.hid hW2
          clear hW2
          have e0 : W2.cell? ⟨wr.heap.size, 0, none⟩ = some (.int .i64 kx) := by rw [cell_of_row W2 _ 0 _ _ (0, 0) HBG.out]; rfl
          have e1 : W2.cell? ⟨wr.heap.size, 1, none⟩ = some (.int .i64 y) := by rw [cell_of_row W2 _ 1 _ _ (0, 0) HBG.out]; rfl
          have e2 : W2.cell? ⟨wr.heap.size, 2, none⟩ = some (.int .i64 z) := by rw [cell_of_row W2 _ 2 _ _ (0, 0) HBG.out]; rfl
          obtain ⟨f0, f1, f2, f3⟩ := hbxg.out
          go_wp2_with (rw [← HW2.out])
          refine (inputs_any _ _ _ _ _ _ _ _ _ HR0.out HR1.out).mono ?_
          rintro e w4 ⟨rfl, hb4⟩
          have l0 : w4.cell? ⟨wr.heap.size, 0, none⟩ = some (.int .i64 kx) := (hb4.cell (p := ⟨_, 0, none⟩) hszg).trans e0
          have l1 : w4.cell? ⟨wr.heap.size, 1, none⟩ = some (.int .i64 y) := (hb4.cell (p := ⟨_, 1, none⟩) hszg).trans e1
          have l2 : w4.cell? ⟨wr.heap.size, 2, none⟩ = some (.int .i64 z) := (hb4.cell (p := ⟨_, 2, none⟩) hszg).trans e2
          have hbr4 := hbr2.trans (hb4.mono hbr2.size)
          have hmk4 := hmk2.below hb4 (Nat.le_refl _)
          have ym := hmk4.cell hmb
          have hne : wr.heap.size ≠ w1.heap.size := by have := (hmk.rowLt w1.heap.size (by simp [rowOf]; omega)).2; omega
          clear hmk hmk2 hal hbr2 hmb e0 e1 e2
          cases mb
          · have HG : Hid (markG m (i0 + i1 + j) (kx, y, z) = m) := by show _ = _; simp only [markG, HMB.out]; rfl
            go_wp2_with fail
            go_roundw
            case rel => exact ⟨j, m, by omega, by go_num, hmk4, by show _ = _; rw [← hfin.out, HSTEP.out, HG.out], hbr4⟩
            case measure => simp [intOf] <;> omega
          · by_cases k3 : kx = 3
            · subst k3
              have HG : Hid (markG m (i0 + i1 + j) (3, y, z) = m) := by show _ = _; simp [markG]
              go_wp2_with fail
              go_roundw
              case rel => exact ⟨j, m, by omega, by go_num, hmk4, by show _ = _; rw [← hfin.out, HSTEP.out, HG.out], hbr4⟩
              case measure => simp [intOf] <;> omega
            · have k3' : (kx == 3) = false := by simp [k3]
              by_cases k2 : kx = 2
              · subst k2
                obtain ⟨⟨ya, yb⟩, rfl⟩ := gate2 hgb
                obtain ⟨a, rfl⟩ := Int.eq_ofNat_of_zero_le ya
                have ha : a < i0 + i1 + gn := by omega
                have HG : Hid (markG m (i0 + i1 + j) (2, (a : Int), 0) = m.set a true) := by show _ = _; simp only [markG, HMB.out]; simp
                obtain ⟨m6, m7, f1, y1⟩ := hmk4.set ha true
                have HM6 := Lib.hid m6
                have HM7 := Lib.hid m7
                clear m6 m7 ya hgb hkx
                go_wp2_with fail
                go_roundw
                case rel => exact ⟨j, _, by omega, by go_num, HM6.out, by show _ = _; rw [← hfin.out, HSTEP.out, HG.out], below_append hbr4 hmk4.2.2 HM7.out hbr4.size⟩
                case measure => simp [intOf] <;> omega
              · have k2' : (kx != 2) = true := by simp [k2]
                have k01 : kx = 0 ∨ kx = 1 := by (try simp at hkx); omega
                obtain ⟨⟨ya, yb⟩, za, zb⟩ := gate01 hgb k01
                obtain ⟨a, rfl⟩ := Int.eq_ofNat_of_zero_le ya
                obtain ⟨b, rfl⟩ := Int.eq_ofNat_of_zero_le za
                have ha : a < i0 + i1 + gn := by omega
                have hb : b < i0 + i1 + gn := by omega
                have HG : Hid (markG m (i0 + i1 + j) (kx, (a : Int), (b : Int)) = (m.set a true).set b true) := by show _ = _; simp only [markG, HMB.out, if_pos k01]; simp
                obtain ⟨m6, m7, f1, y1⟩ := hmk4.set ha true
                obtain ⟨m8, m9, f2, y2⟩ := m6.set hb true
                have HM6 := Lib.hid m6
                have HM7 := Lib.hid m7
                have HM8 := Lib.hid m8
                have HM9 := Lib.hid m9
                clear m6 m7 m8 m9 ya za hgb hkx k01
                go_wp2_with fail
                go_roundw
                case rel => exact ⟨j, _, by omega, by go_num, HM8.out, by show _ = _; rw [← hfin.out, HSTEP.out, HG.out], below_append (below_append hbr4 hmk4.2.2 HM7.out hbr4.size) HM6.out.2.2 HM9.out (below_append hbr4 hmk4.2.2 HM7.out hbr4.size).size⟩
                case measure => simp [intOf] <;> omega
        · obtain rfl : j = 0 := by omega
          go_wp2_with fail
          go_ret
          exact ⟨_, _, _, rfl, by rw [← hfin.out]; exact hmk.up hbw1.size, hbrw⟩
end Go.Proofs.Ytbdccgodamkljaa
