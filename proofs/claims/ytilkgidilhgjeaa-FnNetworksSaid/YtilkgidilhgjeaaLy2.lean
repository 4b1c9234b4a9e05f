/-
  LayersOf, both ways.
-/
import Derived.Test.YtilkgidilhgjeaaLy1
import Derived.Lib.MinMax
import Derived.BigRegion
import Derived.Deep.DeepCutAuto
namespace Go.Proofs.Ytilkgidilhgjeaa
open Go.RowKit
set_option linter.unusedVariables false
set_option linter.unusedSimpArgs false

def RetRB (r : List (List Int) × Bool) (w : World) (e : Ending) (w' : World) : Prop := ∃ ao n cap hs, e = .returned (.tuple #[.slice ao n cap, .bool r.2]) ∧ RR w.heap.size w' ao n cap hs r.1 ∧ Below w.heap.size w w'
theorem l1Most_at {a b L : Int} (h : mx a b = L) (w : World) : Calls Try.prog 49 #[.int .i64 a, .int .i64 b] w fun e w' => e = .returned (.int .i64 L) ∧ w = w' := by
  subst h
  exact l1Most_any _ _ _
theorem mx_max (u v : Int) : mx u v = max u v := by unfold mx; split <;> omega
theorem addTo_new (rows : List (List Int)) (k : Int) {l : List Int} (h : (rows ++ [[]])[rows.length]? = some l) : (rows ++ [[]]).set rows.length (l ++ [k]) = addTo rows rows.length k := by
  rw [List.getElem?_append_right (Nat.le_refl _), Nat.sub_self] at h
  simp at h
  subst h
  unfold addTo
  rw [if_pos rfl, List.set_append_right _ _ (Nat.le_refl _), Nat.sub_self]
  rfl
theorem addTo_old {rows : List (List Int)} {L : Nat} (k : Int) {l : List Int} (h : rows[L]? = some l) : rows.set L (l ++ [k]) = addTo rows L k := by
  have : L < rows.length := (List.getElem?_eq_some_iff.1 h).1
  unfold addTo
  rw [if_neg (by omega)]
  simp [List.getD, h]
theorem tot_mem : ∀ {rows : List (List Int)} {k : Nat} {l : List Int}, rows[k]? = some l → l.length ≤ tot rows
  | [], k, l, h => by simp at h
  | l0 :: r, 0, l, h => by simp at h; subst h; simp [tot]
  | l0 :: r, k + 1, l, h => by
    have ih := tot_mem (rows := r) (k := k) (l := l) (by simpa using h)
    unfold tot at ih ⊢
    simp only [List.map_cons, List.sum_cons]
    omega
theorem block_far {w w' : World} {row : Option Nat} {b : Nat} {o : Obj} (hg : w.grownBy w' row) (hb : w.heap[b]? = some o) (hne : row ≠ some b) : w'.heap[b]? = some o := by
  rw [hg.block b (lt_of_block hb) (fun e => hne (by rw [← e]))]
  exact hb
set_option maxRecDepth 20000 in
set_option maxHeartbeats 4000000 in
theorem spec_LayersOf_any (w : World) (n : Int) (ao : Option Addr) (len c : Nat) (xs : List Int) (ha : Flat 2 w w.heap.size ao len xs) :
    Calls Try.prog 9 #[.int .i64 n, .slice ao len c] w (RetRB (layersF n xs) w) := by
  have hlen := Lib.hid ha.1
  cases hnet : isNetF n xs
  · go_enter Try.func9, Try.ntmps9
    go_wp2_with fail
    refine (soGood_any _ _ _ _ _ _ ha).mono ?_
    rintro e w1 ⟨rfl, hb1⟩
    rw [hnet]
    go_wp2_with fail
    go_ret2
    exact ⟨none, 0, 0, [], by simp [layersF, hnet], by simpa [layersF, hnet] using RR.nil _ _ _, hb1⟩
  obtain ⟨f1, f2, f3, f4⟩ := isNet_facts hlen.out hnet
  obtain ⟨n, rfl⟩ := Int.eq_ofNat_of_zero_le (show 0 ≤ n by omega)
  have HV := Lib.hid f4
  have hsl := Lib.hid (steps_length len xs ha.1)
  have HF : Hid (layersF (n : Int) xs = ((layTo (steps xs) n len).1, true)) := by show _ = _; unfold layersF; rw [if_pos hnet, hsl.out]; rfl
  have hle := ha.le
  clear f4
  obtain ⟨i0, hi, hz0, hz1, hz2⟩ := info_parts int_info
  go_enter Try.func9, Try.ntmps9
  go_wp2_with fail
  refine (soGood_any _ _ _ _ _ _ ha).mono ?_
  rintro e w1 ⟨rfl, hb1⟩
  rw [hnet]
  clear hnet
  go_wp2_with (at_make; refine wpList_make_full _ rfl _ _ 35 rfl w1.heap.size 3 i0 (.int .i64 0) 1 Try.underlying35 hi hz0 hz1 _ _ _ _ n rfl (by first | rfl | (simp; done)) (by first | rfl | (simp; done)) rfl (by rw [hz2]; omega) (by unfold maxLen; omega) (Nat.le_refl _) ?_; intro w2 hown2 hg2)
  obtain ⟨gb, hgb⟩ : ∃ gb, gb = w1.heap.size := ⟨_, rfl⟩
  have hb2 : Below w1.heap.size w1 w2 := (Below.refl _ _).grown hg2 (Nat.le_refl _) (by simp)
  rw [show (Value.int IntKind.i64 0).cells = #[.int .i64 0] from rfl, toList_madeCells_one, Nat.mul_one, show List.replicate n (Value.int .i64 0) = (List.replicate n (0 : Int)).map (Value.int .i64) from by simp, ← hgb] at hown2
  have hz1' := hb1.size
  have hz2' : gb < w2.heap.size := (World.ownsRow.lt hown2 gb rfl).2
  have ho2 : OwnI w.heap.size w2 (some ⟨gb, 0, none⟩) n n (List.replicate n 0) := OwnI.up (B := gb) ⟨by simp, by omega, .inr ⟨_, rfl, hown2⟩⟩ (by omega)
  have hb2w := hb1.trans (hb2.mono hb1.size)
  have hgw : w.heap.size ≤ gb := by omega
  rw [← hgb]
  clear hown2 hi hz0 hz1 hz2 hg2 hb2 hgb
  go_wp2_with fail
  go_loopw [6, 19] (fun out i wr => ∃ (k m : Nat) (co : Option Addr) (cap : Nat) (hs : List (Option Addr × Nat)), k ≤ len ∧ i = .int .i64 k ∧ out = .slice co m cap ∧ RR (gb + 1) wr co m cap hs (layTo (steps xs) n k).1 ∧ OwnI w.heap.size wr (some ⟨gb, 0, none⟩) n n (layTo (steps xs) n k).2 ∧ Below w.heap.size w wr ∧ gb < wr.heap.size) (fun _ i _ => len - (intOf i).toNat)
  case atStart => exact ⟨0, 0, _, 0, [], Nat.zero_le _, rfl, rfl, RR.nil _ _ _, ho2, hb2w, hz2'⟩
  case round =>
    obtain ⟨k, m, co, cap, hs, hk, rfl, rfl, hR, hnx, hbel, hgl⟩ := hrel
    by_cases hlt : k < len
    · obtain ⟨b1, o1, i1, j1, rfl, hbb, hst, c0, c1'⟩ := ha.step hlt
      have g0 : wr.cell? ⟨b1, o1 + k * 2, none⟩ = some (.int .i64 i1) := (hbel.cell (by exact hbb)).trans c0
      have g1 : wr.cell? ⟨b1, o1 + k * 2 + 1, none⟩ = some (.int .i64 j1) := (hbel.cell (by exact hbb)).trans c1'
      obtain ⟨q1, q2, q3⟩ := good_at HV.out hst
      obtain ⟨a, rfl⟩ := Int.eq_ofNat_of_zero_le q1
      obtain ⟨b, rfl⟩ := Int.eq_ofNat_of_zero_le (show 0 ≤ j1 by omega)
      have hI := layTo_inv (n := n) HV.out k (by rw [hsl.out]; omega)
      have HST := Lib.hid (layTo_step hst n)
      have hbd := hI.bd
      have hol := hI.ol
      have hRl := hR.len
      have hnl := hI.nl
      have hsum := hI.sum
      obtain ⟨rows, hrows⟩ : ∃ rows, rows = (layTo (steps xs) n k).1 := ⟨_, rfl⟩
      obtain ⟨nx, hnxe⟩ : ∃ nx, nx = (layTo (steps xs) n k).2 := ⟨_, rfl⟩
      have hpair : layTo (steps xs) n k = (rows, nx) := by rw [hrows, hnxe]
      rw [hpair] at HST hbd hol hRl hnl hsum hR hnx
      dsimp only at hbd hol hRl hnl hsum hR hnx
      clear hI hrows hnxe hpair hst c0 c1'
      obtain ⟨u, hu⟩ := get_at (i := a) hnl (by omega)
      obtain ⟨v, hv⟩ := get_at (i := b) hnl (by omega)
      have hua := hbd (a : Int)
      have hvb := hbd (b : Int)
      rw [getI_get hu] at hua
      rw [getI_get hv] at hvb
      obtain ⟨hu0, hu1⟩ := hua
      obtain ⟨hv0, hv1⟩ := hvb
      obtain ⟨L, hL⟩ : ∃ L : Nat, mx u v = L := Int.eq_ofNat_of_zero_le (by unfold mx; split <;> omega)
      have hLm : L ≤ m := by have : mx u v ≤ (rows.length : Int) := by unfold mx; split <;> omega
                             omega
      have HS : Hid (layTo (steps xs) n (k + 1) = (addTo rows L (k : Int), (nx.set a ((L : Int) + 1)).set b ((L : Int) + 1))) := by
        show _ = _
        rw [HST.out, layStep]
        dsimp only
        rw [getI_get hu, getI_get hv, hL]
        rfl
      have HL := Lib.hid hL
      have HU := Lib.hid hu
      have HVV := Lib.hid hv
      have HRL := Lib.hid hRl
      have HNL := Lib.hid hnl
      have hm60 : m ≤ 60 := by omega
      have HTOT := Lib.hid hsum
      clear hL hbd hu1 hv1 HST hsum hol hnl hRl
      obtain ⟨W2, hW2⟩ : ∃ W2, W2 = wr.alloc (.cells #[.int .i64 (a : Int), .int .i64 (b : Int)] 62) := ⟨_, rfl⟩
      have hal : Below wr.heap.size wr W2 := by rw [hW2]; exact (Below.refl _ _).alloc (Nat.le_refl _) _
      have HBK : Hid (W2.heap[wr.heap.size]? = some (.cells #[.int .i64 (a : Int), .int .i64 (b : Int)] 62 (0, 0))) := by show _ = _; rw [hW2]; exact heap_alloc_new wr _
      have HW2 := Lib.hid hW2
      clear hW2
      have hbxg : wr.heap.size ≠ gb := by omega
      have hbxg' : gb ≠ wr.heap.size := by omega
      have x0 : W2.cell? ⟨wr.heap.size, 0, none⟩ = some (.int .i64 (a : Int)) := by rw [cell_of_row W2 _ 0 _ _ (0, 0) HBK.out]; rfl
      have x1 : W2.cell? ⟨wr.heap.size, 1, none⟩ = some (.int .i64 (b : Int)) := by rw [cell_of_row W2 _ 1 _ _ (0, 0) HBK.out]; rfl
      have hR2 := hR.below hal (Nat.le_refl _)
      have hnx2 := hnx.below hal (Nat.le_refl _)
      have hb2r := hbel.trans (hal.mono hbel.size)
      have hg2 : gb < W2.heap.size := Nat.lt_of_lt_of_le hgl hal.size
      have y0 := hnx2.cell hu
      have y1 := hnx2.cell hv
      clear hR hnx hu hv hgl hal hbel
      go_wp2_with (rw [← HW2.out])
      go_quiet ((go_at_call 49; exact quiet_left (l1Most_at HL.out _)))
      have hq := bdrewN (Below.refl W2.heap.size W2) nq
      have hR3 := hR2.below hq (Nat.le_refl _)
      have hnx3 := hnx2.below hq (Nat.le_refl _)
      have hb3r := hb2r.trans (hq.mono hb2r.size)
      have hg3 : gb < (W2.drewN nq).heap.size := hg2
      have HBK3 : Hid ((W2.drewN nq).heap[wr.heap.size]? = some (.cells #[.int .i64 (a : Int), .int .i64 (b : Int)] 62 (0, 0))) := HBK
      clear hq hR2 hnx2 hb2r hg2 HBK x0 x1 y0 y1
      generalize W2.drewN nq = W3 at *
      have hz3 := hb3r.size
      by_cases hm : L = m
      · subst hm
        go_upto_region 11 with (at_builtin; refine wpList_append_new rfl _ _ 24 35 (.slice none 0 0) 1 24 Try.underlying24 row_info rfl (by decide) (by decide) rfl (gb + 1) _ _ _ _ 1 1 [.slice none 0 0] rfl (by first | rfl | (simp; rfl)) rfl (by simp [Value.oneCell']) hR3.row (by omega) (by omega) ?_; intro co4 cap4 W4 hown4 hg4)
        have hR4 := hR3.more (by omega) hown4 hg4
        have hrow3 : ∀ p, rowOf co cap = some p → gb + 1 ≤ p := fun p hp => (hR3.row.rowLt p hp).1
        have hnx4 := hnx3.other hg4 (fun p q hp hq => by
          have h1 := hrow3 q hq
          simp only [rowOf] at hp
          split at hp
          · cases hp
          · simp at hp; omega)
        have HBK4 := Lib.hid (block_far hg4 HBK3.out (rowNe hR3.row HBK3.out (by decide)))
        have hb4 := hb3r.grown hg4 hz3 (fun p hp => by have := hrow3 p hp; omega)
        have hg4' : gb < W4.heap.size := Nat.lt_of_lt_of_le hg3 hg4.size
        have hL4 : L < L + 1 := by omega
        have HADD : Hid (∀ l, (rows ++ [[]])[L]? = some l → (rows ++ [[]]).set L (l ++ [(k : Int)]) = addTo rows L (k : Int)) := by
          intro l hl
          have e := HRL.out
          subst e
          exact addTo_new rows (k : Int) hl
        have HLEN : Hid (∀ l, (rows ++ [[]])[L]? = some l → l.length ≤ 60) := by
          intro l hl
          rw [List.getElem?_append_right (by rw [HRL.out]; exact Nat.le_refl _), HRL.out, Nat.sub_self] at hl
          simp at hl
          subst hl
          simp
        clear hR3 hown4 hg4 hnx3 HBK3 hb3r hg3 hrow3 hz3 HRL HTOT
        obtain ⟨g, l, x, rfl, r1, r2, hl, hx, hc, hf, hp, hrow, hro⟩ := hR4.at hL4
        have HADD2 := Lib.hid (HADD.out l hl)
        have hl60 := HLEN.out l hl
        have HLL := Lib.hid hl
        have HXX := Lib.hid hx
        have HRO := Lib.hid hro
        clear hl hx hrow hro hf
        go_upto_region 12 with (at_builtin; refine wpList_append_i2 rfl _ _ rfl (gb + 1) _ _ _ _ _ rfl (by first | rfl | (simp; rfl)) hp (by omega) (by omega) ?_; intro ao5 cap5 W5 hown5 hg5 hpl5; obtain ⟨hR6, hg6, hf6, hc6⟩ := hR4.put HLL.out HXX.out hown5 hg5 hpl5)
        rw [HADD2.out] at hR6
        have hrow4 : ∀ p, rowOf x.1 x.2 = some p → gb + 1 ≤ p := fun p hp' => (hp.rowLt p hp').1
        have hnx5 := hnx4.other hg5 (fun p q hp' hq => by
          have h1 := hrow4 q hq
          simp only [rowOf] at hp'
          split at hp'
          · cases hp'
          · simp at hp'; omega)
        have HBK5 := Lib.hid (block_far hg5 HBK4.out (rowNe hp.2.2 HBK4.out (by decide)))
        have hgx : g ≠ wr.heap.size := fun e => rowNe hR4.row HBK4.out (by decide) (by rw [HRO.out, e])
        have hb5 := hb4.grown hg5 hb4.size (fun p hp' => by have := hrow4 p hp'; omega)
        have hnx6 := hnx5.other hg6 (fun p q hp' hq => by
          simp only [rowOf] at hp'
          split at hp'
          · cases hp'
          · simp at hp' hq; omega)
        have HBK6 := Lib.hid (block_far hg6 HBK5.out (by simp; exact hgx))
        have hb6 := hb5.grown hg6 hb5.size (fun p hp' => by simp at hp'; omega)
        have hg6' : gb < (W5.setCell ⟨g, L, none⟩ (.slice ao5 (l.length + 1) cap5)).heap.size := Nat.lt_of_lt_of_le hg4' (Nat.le_trans hg5.size hg6.size)
        clear hR4 hnx4 HBK4 hb4 hg4' hown5 hg5 hpl5 hg6 hf6 hc6 hp hc hrow4 hnx5 HBK5 hb5 HADD HADD2 HLEN HLL HXX HRO
        generalize W5.setCell ⟨g, L, none⟩ (.slice ao5 (l.length + 1) cap5) = W6 at *
        have x0 : W6.cell? ⟨wr.heap.size, 0, none⟩ = some (.int .i64 (a : Int)) := by rw [cell_of_row W6 _ 0 _ _ (0, 0) HBK6.out]; rfl
        have x1 : W6.cell? ⟨wr.heap.size, 1, none⟩ = some (.int .i64 (b : Int)) := by rw [cell_of_row W6 _ 1 _ _ (0, 0) HBK6.out]; rfl
        have y0 := hnx6.cell HU.out
        have y1 := hnx6.cell HVV.out
        obtain ⟨n7, ng7, nf7⟩ := hnx6.set (k := a) (by omega) ((L : Int) + 1)
        obtain ⟨n8, ng8, nf8⟩ := n7.set (k := b) (by omega) ((L : Int) + 1)
        obtain ⟨_, _, nf9⟩ := hnx6.set (k := b) (by omega) ((L : Int) + 1)
        have N7 := Lib.hid n7
        have N8 := Lib.hid n8
        have NG7 := Lib.hid ng7
        have NG8 := Lib.hid ng8
        clear n7 n8 ng7 ng8
        go_wp2_with fail
        have hgbr : rowOf (some (⟨gb, 0, none⟩ : Addr)) n = some gb := by simp [rowOf]; omega
        have ng7 := NG7.out
        have ng8 := NG8.out
        rw [hgbr] at ng7 ng8
        have hR8 := (hR6.far ng7 (by omega)).far ng8 (by omega)
        have hb8 := (hb6.grown ng7 hb6.size (fun p hp' => by simp at hp'; omega)).grown ng8 (Nat.le_trans hb6.size ng7.size) (fun p hp' => by simp at hp'; omega)
        go_roundw
        case rel => exact ⟨k + 1, _, _, _, _, by omega, by go_num, rfl, by rw [HS.out]; exact hR8, by rw [HS.out]; exact N8.out, hb8, Nat.lt_of_lt_of_le hg6' (Nat.le_trans ng7.size ng8.size)⟩
        case measure => simp [intOf] <;> omega
      · have hm' : ((L : Int) == (m : Int)) = false := by simp; omega
        go_upto_region 11 with fail
        have hR4 := hR3
        have hnx4 := hnx3
        have HBK4 := HBK3
        have hb4 := hb3r
        have hg4' := hg3
        have hL4 : L < m := by omega
        have HADD : Hid (∀ l, rows[L]? = some l → rows.set L (l ++ [(k : Int)]) = addTo rows L (k : Int)) := fun l hl => addTo_old (k : Int) hl
        have HLEN : Hid (∀ l, rows[L]? = some l → l.length ≤ 60) := fun l hl => by
          have h1 := tot_mem hl
          have h2 := HTOT.out
          omega
        clear hR3 hnx3 HBK3 hb3r hg3 hm' HRL HTOT
        obtain ⟨g, l, x, rfl, r1, r2, hl, hx, hc, hf, hp, hrow, hro⟩ := hR4.at hL4
        have HADD2 := Lib.hid (HADD.out l hl)
        have hl60 := HLEN.out l hl
        have HLL := Lib.hid hl
        have HXX := Lib.hid hx
        have HRO := Lib.hid hro
        clear hl hx hrow hro hf
        go_upto_region 12 with (at_builtin; refine wpList_append_i2 rfl _ _ rfl (gb + 1) _ _ _ _ _ rfl (by first | rfl | (simp; rfl)) hp (by omega) (by omega) ?_; intro ao5 cap5 W5 hown5 hg5 hpl5; obtain ⟨hR6, hg6, hf6, hc6⟩ := hR4.put HLL.out HXX.out hown5 hg5 hpl5)
        rw [HADD2.out] at hR6
        have hrow4 : ∀ p, rowOf x.1 x.2 = some p → gb + 1 ≤ p := fun p hp' => (hp.rowLt p hp').1
        have hnx5 := hnx4.other hg5 (fun p q hp' hq => by
          have h1 := hrow4 q hq
          simp only [rowOf] at hp'
          split at hp'
          · cases hp'
          · simp at hp'; omega)
        have HBK5 := Lib.hid (block_far hg5 HBK4.out (rowNe hp.2.2 HBK4.out (by decide)))
        have hgx : g ≠ wr.heap.size := fun e => rowNe hR4.row HBK4.out (by decide) (by rw [HRO.out, e])
        have hb5 := hb4.grown hg5 hb4.size (fun p hp' => by have := hrow4 p hp'; omega)
        have hnx6 := hnx5.other hg6 (fun p q hp' hq => by
          simp only [rowOf] at hp'
          split at hp'
          · cases hp'
          · simp at hp' hq; omega)
        have HBK6 := Lib.hid (block_far hg6 HBK5.out (by simp; exact hgx))
        have hb6 := hb5.grown hg6 hb5.size (fun p hp' => by simp at hp'; omega)
        have hg6' : gb < (W5.setCell ⟨g, L, none⟩ (.slice ao5 (l.length + 1) cap5)).heap.size := Nat.lt_of_lt_of_le hg4' (Nat.le_trans hg5.size hg6.size)
        clear hR4 hnx4 HBK4 hb4 hg4' hown5 hg5 hpl5 hg6 hf6 hc6 hp hc hrow4 hnx5 HBK5 hb5 HADD HADD2 HLEN HLL HXX HRO
        generalize W5.setCell ⟨g, L, none⟩ (.slice ao5 (l.length + 1) cap5) = W6 at *
        have x0 : W6.cell? ⟨wr.heap.size, 0, none⟩ = some (.int .i64 (a : Int)) := by rw [cell_of_row W6 _ 0 _ _ (0, 0) HBK6.out]; rfl
        have x1 : W6.cell? ⟨wr.heap.size, 1, none⟩ = some (.int .i64 (b : Int)) := by rw [cell_of_row W6 _ 1 _ _ (0, 0) HBK6.out]; rfl
        have y0 := hnx6.cell HU.out
        have y1 := hnx6.cell HVV.out
        obtain ⟨n7, ng7, nf7⟩ := hnx6.set (k := a) (by omega) ((L : Int) + 1)
        obtain ⟨n8, ng8, nf8⟩ := n7.set (k := b) (by omega) ((L : Int) + 1)
        obtain ⟨_, _, nf9⟩ := hnx6.set (k := b) (by omega) ((L : Int) + 1)
        have N7 := Lib.hid n7
        have N8 := Lib.hid n8
        have NG7 := Lib.hid ng7
        have NG8 := Lib.hid ng8
        clear n7 n8 ng7 ng8
        go_wp2_with fail
        have hgbr : rowOf (some (⟨gb, 0, none⟩ : Addr)) n = some gb := by simp [rowOf]; omega
        have ng7 := NG7.out
        have ng8 := NG8.out
        rw [hgbr] at ng7 ng8
        have hR8 := (hR6.far ng7 (by omega)).far ng8 (by omega)
        have hb8 := (hb6.grown ng7 hb6.size (fun p hp' => by simp at hp'; omega)).grown ng8 (Nat.le_trans hb6.size ng7.size) (fun p hp' => by simp at hp'; omega)
        go_roundw
        case rel => exact ⟨k + 1, _, _, _, _, by omega, by go_num, rfl, by rw [HS.out]; exact hR8, by rw [HS.out]; exact N8.out, hb8, Nat.lt_of_lt_of_le hg6' (Nat.le_trans ng7.size ng8.size)⟩
        case measure => simp [intOf] <;> omega
    · obtain rfl : k = len := by omega
      go_wp2_with fail
      go_ret2
      exact ⟨co, m, cap, hs, by simp [HF.out], by rw [HF.out]; exact hR.up (by omega), hbel⟩
set_option maxRecDepth 20000 in
set_option maxHeartbeats 4000000 in
theorem impl_LayersOf_any (w : World) (n : Int) (ao : Option Addr) (len c : Nat) (xs : List Int) (ha : Flat 2 w w.heap.size ao len xs) :
    Calls Try.prog 11 #[.int .i64 n, .slice ao len c] w (RetRB (layersF n xs) w) := by
  have hlen := Lib.hid ha.1
  cases hnet : isNetF n xs
  · go_enter Try.func11, Try.ntmps11
    go_wp2_with fail
    refine (impl_IsNetwork_any _ _ _ _ _ _ ha).mono ?_
    rintro e w1 ⟨rfl, hb1⟩
    rw [hnet]
    go_wp2_with fail
    go_ret2
    exact ⟨none, 0, 0, [], by simp [layersF, hnet], by simpa [layersF, hnet] using RR.nil _ _ _, hb1⟩
  obtain ⟨f1, f2, f3, f4⟩ := isNet_facts hlen.out hnet
  obtain ⟨n, rfl⟩ := Int.eq_ofNat_of_zero_le (show 0 ≤ n by omega)
  have HV := Lib.hid f4
  have hsl := Lib.hid (steps_length len xs ha.1)
  have HF : Hid (layersF (n : Int) xs = ((layTo (steps xs) n len).1, true)) := by show _ = _; unfold layersF; rw [if_pos hnet, hsl.out]; rfl
  have hle := ha.le
  clear f4
  obtain ⟨i0, hi, hz0, hz1, hz2⟩ := info_parts int_info
  go_enter Try.func11, Try.ntmps11
  go_wp2_with fail
  refine (impl_IsNetwork_any _ _ _ _ _ _ ha).mono ?_
  rintro e w1 ⟨rfl, hb1⟩
  rw [hnet]
  clear hnet
  obtain ⟨wa, hruna, howna, hga⟩ := run_make_full (P := Try.prog) w1.drew w1.heap.size 35 3 i0 (.int .i64 0) 1 Try.underlying35 hi hz0 hz1 .i64 .i64 n (by rw [hz2]; omega) (by unfold maxLen; omega) (Nat.le_refl _)
  obtain ⟨wb, hrunb, hownb, hgb'⟩ := run_make_full (P := Try.prog) (w1.alloc (.cells #[] 35)).drew w1.heap.size 35 3 i0 (.int .i64 0) 1 Try.underlying35 hi hz0 hz1 .i64 .i64 n (by rw [hz2]; omega) (by unfold maxLen; omega) (by simp)
  rw [show (Value.int IntKind.i64 0).cells = #[.int .i64 0] from rfl, toList_madeCells_one, Nat.mul_one, show List.replicate n (Value.int .i64 0) = (List.replicate n (0 : Int)).map (Value.int .i64) from by simp] at howna hownb
  have hz1' := hb1.size
  have hw1d : w1.drew.heap.size = w1.heap.size := rfl
  have hw1a : (w1.alloc (.cells #[] 35)).drew.heap.size = w1.heap.size + 1 := by show (w1.alloc (.cells #[] 35)).heap.size = _; simp
  rw [hw1d] at howna
  rw [hw1a] at hownb
  have HA : Hid (OwnI w.heap.size wb (some ⟨w1.heap.size + 1, 0, none⟩) n n (List.replicate n 0) ∧ Below w.heap.size w wb ∧ w1.heap.size + 1 < wb.heap.size) := by
    refine ⟨OwnI.up (B := w1.heap.size) ⟨by simp, by omega, .inr ⟨_, rfl, hownb⟩⟩ (by omega), hb1.trans (((((Below.refl _ _).alloc (Nat.le_refl _) _).drew).grown hgb' (by rw [hw1a]; omega) (by simp)).mono hb1.size), (World.ownsRow.lt hownb _ rfl).2⟩
  have hBa : Below w.heap.size w wa := hb1.trans ((((Below.refl w1.heap.size w1).drew).grown hga (Nat.le_refl _) (by simp)).mono hb1.size)
  have hlta := (World.ownsRow.lt howna _ rfl).2
  have HB : Hid (OwnI w.heap.size (wa.alloc (.cells #[] 35)) (some ⟨w1.heap.size, 0, none⟩) n n (List.replicate n 0) ∧ Below w.heap.size w (wa.alloc (.cells #[] 35)) ∧ w1.heap.size < (wa.alloc (.cells #[] 35)).heap.size) := by
    refine ⟨(OwnI.up (B := w1.heap.size) (w := wa) ⟨by simp, by omega, .inr ⟨_, rfl, howna⟩⟩ (by omega)).below ((Below.refl wa.heap.size wa).alloc (Nat.le_refl _) _) (Nat.le_refl _), hBa.alloc hBa.size _, by simp; exact Nat.lt_succ_of_lt hlta⟩
  clear howna hownb hBa hlta hga hgb' hw1d hw1a hi hz0 hz1 hz2
  obtain ⟨gbA, hgbA⟩ : ∃ g, w1.heap.size + 1 = g := ⟨_, rfl⟩
  obtain ⟨gbB, hgbB⟩ : ∃ g, w1.heap.size = g := ⟨_, rfl⟩
  have HGA := Lib.hid hgbA
  have HGB := Lib.hid hgbB
  clear hgbA hgbB
  have HRA := Lib.hid hruna
  have HRB := Lib.hid hrunb
  go_wp2_with fail
  go_region
  all_goals
    clear hruna hrunb HRA HRB
    first
      | (rw [HGA.out]
         have hA := HA.out
         rw [HGA.out] at hA
         obtain ⟨ho2, hb2w, hz2'⟩ := hA
         have hgw : w.heap.size ≤ gbA := by have := HGA.out; omega
         obtain ⟨gb, rfl⟩ : ∃ gb, gb = gbA := ⟨_, rfl⟩
         obtain ⟨w2, rfl⟩ : ∃ w2, w2 = wb := ⟨_, rfl⟩)
      | (have hA := HB.out
         rw [HGB.out] at hA ⊢
         obtain ⟨ho2, hb2w, hz2'⟩ := hA
         have hgw : w.heap.size ≤ gbB := by have := HGB.out; omega
         obtain ⟨gb, rfl⟩ : ∃ gb, gb = gbB := ⟨_, rfl⟩
         generalize wa.alloc (.cells #[] 35) = w2 at *)
    clear HA HB HGA HGB hz1'
    go_wp2_with fail
    go_loopw [6, 20] (fun out i wr => ∃ (k m : Nat) (co : Option Addr) (cap : Nat) (hs : List (Option Addr × Nat)), k ≤ len ∧ i = .int .i64 k ∧ out = .slice co m cap ∧ RR (gb + 1) wr co m cap hs (layTo (steps xs) n k).1 ∧ OwnI w.heap.size wr (some ⟨gb, 0, none⟩) n n (layTo (steps xs) n k).2 ∧ Below w.heap.size w wr ∧ gb < wr.heap.size) (fun _ i _ => len - (intOf i).toNat)
    case atStart => exact ⟨0, 0, _, 0, [], Nat.zero_le _, rfl, rfl, RR.nil _ _ _, ho2, hb2w, hz2'⟩
    case round =>
      obtain ⟨k, m, co, cap, hs, hk, rfl, rfl, hR, hnx, hbel, hgl⟩ := hrel
      by_cases hlt : k < len
      · obtain ⟨b1, o1, i1, j1, rfl, hbb, hst, c0, c1'⟩ := ha.step hlt
        have g0 : wr.cell? ⟨b1, o1 + k * 2, none⟩ = some (.int .i64 i1) := (hbel.cell (by exact hbb)).trans c0
        have g1 : wr.cell? ⟨b1, o1 + k * 2 + 1, none⟩ = some (.int .i64 j1) := (hbel.cell (by exact hbb)).trans c1'
        obtain ⟨q1, q2, q3⟩ := good_at HV.out hst
        obtain ⟨a, rfl⟩ := Int.eq_ofNat_of_zero_le q1
        obtain ⟨b, rfl⟩ := Int.eq_ofNat_of_zero_le (show 0 ≤ j1 by omega)
        have hI := layTo_inv (n := n) HV.out k (by rw [hsl.out]; omega)
        have HST := Lib.hid (layTo_step hst n)
        have hbd := hI.bd
        have hol := hI.ol
        have hRl := hR.len
        have hnl := hI.nl
        have hsum := hI.sum
        obtain ⟨rows, hrows⟩ : ∃ rows, rows = (layTo (steps xs) n k).1 := ⟨_, rfl⟩
        obtain ⟨nx, hnxe⟩ : ∃ nx, nx = (layTo (steps xs) n k).2 := ⟨_, rfl⟩
        have hpair : layTo (steps xs) n k = (rows, nx) := by rw [hrows, hnxe]
        rw [hpair] at HST hbd hol hRl hnl hsum hR hnx
        dsimp only at hbd hol hRl hnl hsum hR hnx
        clear hI hrows hnxe hpair hst c0 c1'
        obtain ⟨u, hu⟩ := get_at (i := a) hnl (by omega)
        obtain ⟨v, hv⟩ := get_at (i := b) hnl (by omega)
        have hua := hbd (a : Int)
        have hvb := hbd (b : Int)
        rw [getI_get hu] at hua
        rw [getI_get hv] at hvb
        obtain ⟨hu0, hu1⟩ := hua
        obtain ⟨hv0, hv1⟩ := hvb
        obtain ⟨L, hL⟩ : ∃ L : Nat, mx u v = L := Int.eq_ofNat_of_zero_le (by unfold mx; split <;> omega)
        have hLm : L ≤ m := by have : mx u v ≤ (rows.length : Int) := by unfold mx; split <;> omega
                               omega
        have HS : Hid (layTo (steps xs) n (k + 1) = (addTo rows L (k : Int), (nx.set a ((L : Int) + 1)).set b ((L : Int) + 1))) := by
          show _ = _
          rw [HST.out, layStep]
          dsimp only
          rw [getI_get hu, getI_get hv, hL]
          rfl
        have HL := Lib.hid hL
        have HU := Lib.hid hu
        have HVV := Lib.hid hv
        have HRL := Lib.hid hRl
        have HNL := Lib.hid hnl
        have hm60 : m ≤ 60 := by omega
        have HTOT := Lib.hid hsum
        clear hL hbd hu1 hv1 HST hsum hol hnl hRl
        obtain ⟨W2, hW2⟩ : ∃ W2, W2 = wr.alloc (.cells #[.int .i64 (a : Int), .int .i64 (b : Int)] 62) := ⟨_, rfl⟩
        have hal : Below wr.heap.size wr W2 := by rw [hW2]; exact (Below.refl _ _).alloc (Nat.le_refl _) _
        have HBK : Hid (W2.heap[wr.heap.size]? = some (.cells #[.int .i64 (a : Int), .int .i64 (b : Int)] 62 (0, 0))) := by show _ = _; rw [hW2]; exact heap_alloc_new wr _
        have HW2 := Lib.hid hW2
        clear hW2
        have hbxg : wr.heap.size ≠ gb := by omega
        have hbxg' : gb ≠ wr.heap.size := by omega
        have x0 : W2.cell? ⟨wr.heap.size, 0, none⟩ = some (.int .i64 (a : Int)) := by rw [cell_of_row W2 _ 0 _ _ (0, 0) HBK.out]; rfl
        have x1 : W2.cell? ⟨wr.heap.size, 1, none⟩ = some (.int .i64 (b : Int)) := by rw [cell_of_row W2 _ 1 _ _ (0, 0) HBK.out]; rfl
        have hR2 := hR.below hal (Nat.le_refl _)
        have hnx2 := hnx.below hal (Nat.le_refl _)
        have hb2r := hbel.trans (hal.mono hbel.size)
        have hg2 : gb < W2.heap.size := Nat.lt_of_lt_of_le hgl hal.size
        have y0 := hnx2.cell hu
        have y1 := hnx2.cell hv
        clear hR hnx hu hv hgl hal hbel
        have HMAX : Hid (max u v = (L : Int)) := by show _ = _; rw [← mx_max]; exact HL.out
        go_wp2_with (rw [← HW2.out])
        go_quiet (fail)
        rw [HMAX.out]
        have hq := bdrewN (Below.refl W2.heap.size W2) nq
        have hR3 := hR2.below hq (Nat.le_refl _)
        have hnx3 := hnx2.below hq (Nat.le_refl _)
        have hb3r := hb2r.trans (hq.mono hb2r.size)
        have hg3 : gb < (W2.drewN nq).heap.size := hg2
        have HBK3 : Hid ((W2.drewN nq).heap[wr.heap.size]? = some (.cells #[.int .i64 (a : Int), .int .i64 (b : Int)] 62 (0, 0))) := HBK
        clear hq hR2 hnx2 hb2r hg2 HBK x0 x1 y0 y1
        generalize W2.drewN nq = W3 at *
        have hz3 := hb3r.size
        by_cases hm : L = m
        · subst hm
          go_upto_region 10 with (at_builtin; refine wpList_append_new rfl _ _ 24 35 (.slice none 0 0) 1 24 Try.underlying24 row_info rfl (by decide) (by decide) rfl (gb + 1) _ _ _ _ 1 1 [.slice none 0 0] rfl (by first | rfl | (simp; rfl)) rfl (by simp [Value.oneCell']) hR3.row (by omega) (by omega) ?_; intro co4 cap4 W4 hown4 hg4)
          have hR4 := hR3.more (by omega) hown4 hg4
          have hrow3 : ∀ p, rowOf co cap = some p → gb + 1 ≤ p := fun p hp => (hR3.row.rowLt p hp).1
          have hnx4 := hnx3.other hg4 (fun p q hp hq => by
            have h1 := hrow3 q hq
            simp only [rowOf] at hp
            split at hp
            · cases hp
            · simp at hp; omega)
          have HBK4 := Lib.hid (block_far hg4 HBK3.out (rowNe hR3.row HBK3.out (by decide)))
          have hb4 := hb3r.grown hg4 hz3 (fun p hp => by have := hrow3 p hp; omega)
          have hg4' : gb < W4.heap.size := Nat.lt_of_lt_of_le hg3 hg4.size
          have hL4 : L < L + 1 := by omega
          have HADD : Hid (∀ l, (rows ++ [[]])[L]? = some l → (rows ++ [[]]).set L (l ++ [(k : Int)]) = addTo rows L (k : Int)) := by
            intro l hl
            have e := HRL.out
            subst e
            exact addTo_new rows (k : Int) hl
          have HLEN : Hid (∀ l, (rows ++ [[]])[L]? = some l → l.length ≤ 60) := by
            intro l hl
            rw [List.getElem?_append_right (by rw [HRL.out]; exact Nat.le_refl _), HRL.out, Nat.sub_self] at hl
            simp at hl
            subst hl
            simp
          clear hR3 hown4 hg4 hnx3 HBK3 hb3r hg3 hrow3 hz3 HRL HTOT
          obtain ⟨g, l, x, rfl, r1, r2, hl, hx, hc, hf, hp, hrow, hro⟩ := hR4.at hL4
          have HADD2 := Lib.hid (HADD.out l hl)
          have hl60 := HLEN.out l hl
          have HLL := Lib.hid hl
          have HXX := Lib.hid hx
          have HRO := Lib.hid hro
          clear hl hx hrow hro hf
          go_upto_region 11 with (at_builtin; refine wpList_append_i2 rfl _ _ rfl (gb + 1) _ _ _ _ _ rfl (by first | rfl | (simp; rfl)) hp (by omega) (by omega) ?_; intro ao5 cap5 W5 hown5 hg5 hpl5; obtain ⟨hR6, hg6, hf6, hc6⟩ := hR4.put HLL.out HXX.out hown5 hg5 hpl5)
          rw [HADD2.out] at hR6
          have hrow4 : ∀ p, rowOf x.1 x.2 = some p → gb + 1 ≤ p := fun p hp' => (hp.rowLt p hp').1
          have hnx5 := hnx4.other hg5 (fun p q hp' hq => by
            have h1 := hrow4 q hq
            simp only [rowOf] at hp'
            split at hp'
            · cases hp'
            · simp at hp'; omega)
          have HBK5 := Lib.hid (block_far hg5 HBK4.out (rowNe hp.2.2 HBK4.out (by decide)))
          have hgx : g ≠ wr.heap.size := fun e => rowNe hR4.row HBK4.out (by decide) (by rw [HRO.out, e])
          have hb5 := hb4.grown hg5 hb4.size (fun p hp' => by have := hrow4 p hp'; omega)
          have hnx6 := hnx5.other hg6 (fun p q hp' hq => by
            simp only [rowOf] at hp'
            split at hp'
            · cases hp'
            · simp at hp' hq; omega)
          have HBK6 := Lib.hid (block_far hg6 HBK5.out (by simp; exact hgx))
          have hb6 := hb5.grown hg6 hb5.size (fun p hp' => by simp at hp'; omega)
          have hg6' : gb < (W5.setCell ⟨g, L, none⟩ (.slice ao5 (l.length + 1) cap5)).heap.size := Nat.lt_of_lt_of_le hg4' (Nat.le_trans hg5.size hg6.size)
          clear hR4 hnx4 HBK4 hb4 hg4' hown5 hg5 hpl5 hg6 hf6 hc6 hp hc hrow4 hnx5 HBK5 hb5 HADD HADD2 HLEN HLL HXX HRO
          generalize W5.setCell ⟨g, L, none⟩ (.slice ao5 (l.length + 1) cap5) = W6 at *
          have x0 : W6.cell? ⟨wr.heap.size, 0, none⟩ = some (.int .i64 (a : Int)) := by rw [cell_of_row W6 _ 0 _ _ (0, 0) HBK6.out]; rfl
          have x1 : W6.cell? ⟨wr.heap.size, 1, none⟩ = some (.int .i64 (b : Int)) := by rw [cell_of_row W6 _ 1 _ _ (0, 0) HBK6.out]; rfl
          have y0 := hnx6.cell HU.out
          have y1 := hnx6.cell HVV.out
          obtain ⟨n7, ng7, nf7⟩ := hnx6.set (k := a) (by omega) ((L : Int) + 1)
          obtain ⟨n8, ng8, nf8⟩ := n7.set (k := b) (by omega) ((L : Int) + 1)
          obtain ⟨_, _, nf9⟩ := hnx6.set (k := b) (by omega) ((L : Int) + 1)
          have N7 := Lib.hid n7
          have N8 := Lib.hid n8
          have NG7 := Lib.hid ng7
          have NG8 := Lib.hid ng8
          clear n7 n8 ng7 ng8
          go_wp2_with fail
          go_region
          all_goals
            have hgbr : rowOf (some (⟨gb, 0, none⟩ : Addr)) n = some gb := by simp [rowOf]; omega
            have ng7 := NG7.out
            have ng8 := NG8.out
            rw [hgbr] at ng7 ng8
            have hR8 := (hR6.far ng7 (by omega)).far ng8 (by omega)
            have hb8 := (hb6.grown ng7 hb6.size (fun p hp' => by simp at hp'; omega)).grown ng8 (Nat.le_trans hb6.size ng7.size) (fun p hp' => by simp at hp'; omega)
            have hg8 := Nat.lt_of_lt_of_le hg6' (Nat.le_trans ng7.size ng8.size)
            have hR9 := hR8.below (bdrewN (Below.refl _ _) 1) (Nat.le_refl _)
            have N9 := N8.out.below (bdrewN (Below.refl _ _) 1) (Nat.le_refl _)
            have hb9 := hb8.trans (bdrewN (Below.refl _ _) 1)
            go_wp2_with fail
            go_roundw
            case rel => exact ⟨k + 1, _, _, _, _, by omega, by go_num, rfl, by rw [HS.out]; exact hR9, by rw [HS.out]; exact N9, hb9, hg8⟩
            case measure => simp [intOf] <;> omega
        · have hm' : ((L : Int) == (m : Int)) = false := by simp; omega
          go_upto_region 10 with fail
          have hR4 := hR3
          have hnx4 := hnx3
          have HBK4 := HBK3
          have hb4 := hb3r
          have hg4' := hg3
          have hL4 : L < m := by omega
          have HADD : Hid (∀ l, rows[L]? = some l → rows.set L (l ++ [(k : Int)]) = addTo rows L (k : Int)) := fun l hl => addTo_old (k : Int) hl
          have HLEN : Hid (∀ l, rows[L]? = some l → l.length ≤ 60) := fun l hl => by
            have h1 := tot_mem hl
            have h2 := HTOT.out
            omega
          clear hR3 hnx3 HBK3 hb3r hg3 hm' HRL HTOT
          obtain ⟨g, l, x, rfl, r1, r2, hl, hx, hc, hf, hp, hrow, hro⟩ := hR4.at hL4
          have HADD2 := Lib.hid (HADD.out l hl)
          have hl60 := HLEN.out l hl
          have HLL := Lib.hid hl
          have HXX := Lib.hid hx
          have HRO := Lib.hid hro
          clear hl hx hrow hro hf
          go_upto_region 11 with (at_builtin; refine wpList_append_i2 rfl _ _ rfl (gb + 1) _ _ _ _ _ rfl (by first | rfl | (simp; rfl)) hp (by omega) (by omega) ?_; intro ao5 cap5 W5 hown5 hg5 hpl5; obtain ⟨hR6, hg6, hf6, hc6⟩ := hR4.put HLL.out HXX.out hown5 hg5 hpl5)
          rw [HADD2.out] at hR6
          have hrow4 : ∀ p, rowOf x.1 x.2 = some p → gb + 1 ≤ p := fun p hp' => (hp.rowLt p hp').1
          have hnx5 := hnx4.other hg5 (fun p q hp' hq => by
            have h1 := hrow4 q hq
            simp only [rowOf] at hp'
            split at hp'
            · cases hp'
            · simp at hp'; omega)
          have HBK5 := Lib.hid (block_far hg5 HBK4.out (rowNe hp.2.2 HBK4.out (by decide)))
          have hgx : g ≠ wr.heap.size := fun e => rowNe hR4.row HBK4.out (by decide) (by rw [HRO.out, e])
          have hb5 := hb4.grown hg5 hb4.size (fun p hp' => by have := hrow4 p hp'; omega)
          have hnx6 := hnx5.other hg6 (fun p q hp' hq => by
            simp only [rowOf] at hp'
            split at hp'
            · cases hp'
            · simp at hp' hq; omega)
          have HBK6 := Lib.hid (block_far hg6 HBK5.out (by simp; exact hgx))
          have hb6 := hb5.grown hg6 hb5.size (fun p hp' => by simp at hp'; omega)
          have hg6' : gb < (W5.setCell ⟨g, L, none⟩ (.slice ao5 (l.length + 1) cap5)).heap.size := Nat.lt_of_lt_of_le hg4' (Nat.le_trans hg5.size hg6.size)
          clear hR4 hnx4 HBK4 hb4 hg4' hown5 hg5 hpl5 hg6 hf6 hc6 hp hc hrow4 hnx5 HBK5 hb5 HADD HADD2 HLEN HLL HXX HRO
          generalize W5.setCell ⟨g, L, none⟩ (.slice ao5 (l.length + 1) cap5) = W6 at *
          have x0 : W6.cell? ⟨wr.heap.size, 0, none⟩ = some (.int .i64 (a : Int)) := by rw [cell_of_row W6 _ 0 _ _ (0, 0) HBK6.out]; rfl
          have x1 : W6.cell? ⟨wr.heap.size, 1, none⟩ = some (.int .i64 (b : Int)) := by rw [cell_of_row W6 _ 1 _ _ (0, 0) HBK6.out]; rfl
          have y0 := hnx6.cell HU.out
          have y1 := hnx6.cell HVV.out
          obtain ⟨n7, ng7, nf7⟩ := hnx6.set (k := a) (by omega) ((L : Int) + 1)
          obtain ⟨n8, ng8, nf8⟩ := n7.set (k := b) (by omega) ((L : Int) + 1)
          obtain ⟨_, _, nf9⟩ := hnx6.set (k := b) (by omega) ((L : Int) + 1)
          have N7 := Lib.hid n7
          have N8 := Lib.hid n8
          have NG7 := Lib.hid ng7
          have NG8 := Lib.hid ng8
          clear n7 n8 ng7 ng8
          go_wp2_with fail
          go_region
          all_goals
            have hgbr : rowOf (some (⟨gb, 0, none⟩ : Addr)) n = some gb := by simp [rowOf]; omega
            have ng7 := NG7.out
            have ng8 := NG8.out
            rw [hgbr] at ng7 ng8
            have hR8 := (hR6.far ng7 (by omega)).far ng8 (by omega)
            have hb8 := (hb6.grown ng7 hb6.size (fun p hp' => by simp at hp'; omega)).grown ng8 (Nat.le_trans hb6.size ng7.size) (fun p hp' => by simp at hp'; omega)
            have hg8 := Nat.lt_of_lt_of_le hg6' (Nat.le_trans ng7.size ng8.size)
            have hR9 := hR8.below (bdrewN (Below.refl _ _) 1) (Nat.le_refl _)
            have N9 := N8.out.below (bdrewN (Below.refl _ _) 1) (Nat.le_refl _)
            have hb9 := hb8.trans (bdrewN (Below.refl _ _) 1)
            go_wp2_with fail
            go_roundw
            case rel => exact ⟨k + 1, _, _, _, _, by omega, by go_num, rfl, by rw [HS.out]; exact hR9, by rw [HS.out]; exact N9, hb9, hg8⟩
            case measure => simp [intOf] <;> omega
      · obtain rfl : k = len := by omega
        go_wp2_with fail
        go_ret2
        exact ⟨co, m, cap, hs, by simp [HF.out], by rw [HF.out]; exact hR.up (by omega), hbel⟩
end Go.Proofs.Ytilkgidilhgjeaa
