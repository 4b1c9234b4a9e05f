/-
  The language: the numbers of lines of all operations: plain law; the reference.
-/
import Derived.Test.YtdlddkgmjpmenaaME
import Derived.Test.YtdlddkgmjpmenaaFlat
namespace Go.Proofs.Ytdlddkgmjpmenaa
open Go.RowKit
set_option linter.unusedVariables false
set_option linter.unusedSimpArgs false

/-- The place of an operation. -/
def opIdx (op : ByteArray) : Nat := (opsL.findIdx? (fun o => o == op)).getD 8
def slotOf (x : Ln) : Option Nat := if x.kind = 3 then some (opIdx x.op) else if x.kind = 4 then some 8 else if x.kind = 5 then some 9 else none
def bump (l : List Int) (i : Nat) : List Int := l.set i (l.getD i 0 + 1)
def countStep (l : List Int) (x : Ln) : List Int := match slotOf x with | some i => bump l i | none => l
def countsOf (ls : List Ln) : List Int := ls.foldl countStep (List.replicate 10 0)
def countOpsF (ls : List Ln) : List Int × Bool := if laGoodF ls = true then (countsOf ls, true) else ([], false)
theorem countsOf_step {ls : List Ln} {k : Nat} {x : Ln} (h : ls[k]? = some x) : countsOf (ls.take (k + 1)) = countStep (countsOf (ls.take k)) x := by
  unfold countsOf
  rw [List.take_add_one, h, List.foldl_append]; rfl
theorem bump_length (l : List Int) (i : Nat) : (bump l i).length = l.length := by simp [bump]
theorem countStep_length (l : List Int) (x : Ln) : (countStep l x).length = l.length := by unfold countStep; split <;> simp [bump_length]
def boundC (l : List Int) (k : Nat) : Prop := ∀ (i : Nat) (v : Int), l[i]? = some v → 0 ≤ v ∧ v ≤ k
theorem bound_bump {l : List Int} {k : Nat} (h : boundC l k) (i : Nat) : boundC (bump l i) (k + 1) := by
  intro j v hv
  unfold bump at hv
  rw [List.getElem?_set] at hv
  split at hv
  · next e =>
    split at hv
    · next hlt =>
      simp only [Option.some.injEq] at hv
      have e2 : l[i]? = some (l.getD i 0) := by rw [List.getD_eq_getElem?_getD, List.getElem?_eq_getElem hlt]; rfl
      have := h i _ e2
      omega
    · cases hv
  · have := h j v hv; omega
theorem bound_mono {l : List Int} {k : Nat} (h : boundC l k) : boundC l (k + 1) := fun i v hv => by have := h i v hv; omega
theorem bound_step {l : List Int} {k : Nat} (h : boundC l k) (x : Ln) : boundC (countStep l x) (k + 1) := by
  unfold countStep
  split
  · exact bound_bump h _
  · exact bound_mono h
theorem good_op {ls : List Ln} (hg : laGoodF ls = true) {k : Nat} {x : Ln} (h : ls[k]? = some x) (hk : x.kind = 3) : opsL.contains x.op = true := by
  have hok := ((widths_good ls).2 hg).2
  have h1 := laWidths_get h
  have h2 := hok.2.1 k _ h1
  unfold laWidth at h2
  split at h2
  · omega
  split at h2
  · omega
  split at h2
  · omega
  unfold kindW at h2
  rw [if_neg (by omega), if_neg (by omega), if_pos hk] at h2
  unfold laTwo at h2
  split at h2
  · omega
  · next g => cases hc : opsL.contains x.op
              · simp [hc] at g
                exact absurd g.2.1 (by simpa using hc)
              · rfl
/-- A valid operation: its place, the only one. -/
theorem op_place {op : ByteArray} (h : opsL.contains op = true) : ∃ c i, op = opB c ∧ i < 8 ∧ opIdx op = i ∧ Lib.indexByte opsBytes c = (i : Int) ∧ ∀ j o, opsL[j]? = some o → ((op == o) = decide (j = i)) := by
  have key : ∀ (c : UInt8) (i : Nat), i < 8 → (opsL.findIdx? (fun o => o == opB c)).getD 8 = i → Lib.indexByte opsBytes c = (i : Int) → (∀ j, j < 8 → (opsBytes[j]? = some c ↔ j = i)) → ∃ c' i, opB c = opB c' ∧ i < 8 ∧ opIdx (opB c) = i ∧ Lib.indexByte opsBytes c' = (i : Int) ∧ ∀ j o, opsL[j]? = some o → ((opB c == o) = decide (j = i)) := by
    intro c i hi h1 h2 h3
    refine ⟨c, i, rfl, hi, h1, h2, fun j o ho => ?_⟩
    have hj : j < 8 := (List.getElem?_eq_some_iff.1 ho).1
    have e : opsL[j]? = (opsBytes[j]?).map opB := by
      have : opsL = opsBytes.map opB := rfl
      rw [this, List.getElem?_map]
    rw [e] at ho
    obtain ⟨d, hd⟩ : ∃ d, opsBytes[j]? = some d := ⟨opsBytes[j]'hj, List.getElem?_eq_getElem hj⟩
    rw [hd] at ho
    simp only [Option.map_some, Option.some.injEq] at ho
    subst ho
    rw [opB_beq]
    have h4 := h3 j hj
    rw [hd] at h4
    simp only [Option.some.injEq] at h4
    by_cases hji : j = i
    · rw [h4.2 hji, hji]; simp
    · have : c ≠ d := fun e => hji (h4.1 e.symm)
      simp [this, hji]
  rcases ops_cases h with rfl | (rfl | rfl) | (rfl | rfl | rfl | rfl | rfl)
  · exact key 42 2 (by decide) (by simp [opsL, opB_beq]; rfl) (by decide) (by decide)
  · exact key 60 3 (by decide) (by simp [opsL, opB_beq]; rfl) (by decide) (by decide)
  · exact key 61 4 (by decide) (by simp [opsL, opB_beq]; rfl) (by decide) (by decide)
  · exact key 43 0 (by decide) (by simp [opsL, opB_beq]; rfl) (by decide) (by decide)
  · exact key 45 1 (by decide) (by simp [opsL, opB_beq]; rfl) (by decide) (by decide)
  · exact key 38 5 (by decide) (by simp [opsL, opB_beq]; rfl) (by decide) (by decide)
  · exact key 124 6 (by decide) (by simp [opsL, opB_beq]; rfl) (by decide) (by decide)
  · exact key 94 7 (by decide) (by simp [opsL, opB_beq]; rfl) (by decide) (by decide)
theorem indexOps_any (c : UInt8) (w : World) :
    Calls Try.prog 28 #[.string ⟨#[43, 45, 42, 60, 61, 38, 124, 94]⟩, .string ⟨#[c]⟩] w fun e w' => e = .returned (.int .i64 (Lib.indexByte opsBytes c)) ∧ w = w' :=
  sindex1_any _ _ _
/-- The row of counts: its cells may be read and written. -/
theorem row_at {w : World} {B g : Nat} {cur : List Int} (h : w.ownsRow B 3 1 (.slice (some ⟨g, 0, none⟩) 10 10) 10 (cur.map (Value.int .i64))) {i : Nat} (hi : i < 10) :
    cur[i]? = some (cur.getD i 0) ∧ w.cell? ⟨g, i, none⟩ = some (.int .i64 (cur.getD i 0)) ∧ w.frozen? ⟨g, i, none⟩ = false ∧
    (w.setCell ⟨g, i, none⟩ (.int .i64 (cur.getD i 0 + 1))).ownsRow B 3 1 (.slice (some ⟨g, 0, none⟩) 10 10) 10 ((bump cur i).map (Value.int .i64)) ∧ w.grownBy (w.setCell ⟨g, i, none⟩ (.int .i64 (cur.getD i 0 + 1))) (some g) := by
  have hl : cur.length = 10 := by have := h.1; simpa using this
  have e : cur[i]? = some (cur.getD i 0) := by rw [List.getD_eq_getElem?_getD, List.getElem?_eq_getElem (by omega)]; rfl
  have hst := World.ownsRow.stored h i (.int .i64 (cur.getD i 0 + 1))
  rw [← List.map_set] at hst
  refine ⟨e, ?_, World.ownsRow.frozenAt h i, hst.1, hst.2⟩
  rw [World.ownsRow.cellAt h i (by omega), List.getElem?_map, e]; rfl
theorem row_own {w : World} {B g : Nat} {cur : List Int} (h : w.ownsRow B 3 1 (.slice (some ⟨g, 0, none⟩) 10 10) 10 (cur.map (Value.int .i64))) : OwnI B w (some ⟨g, 0, none⟩) 10 10 cur :=
  ⟨by have := h.1; simpa using this, by decide, .inr ⟨g, rfl, h⟩⟩
def opsAt (b : Nat) : Option Addr := some ⟨b, 0, none⟩
theorem laOps3_any (w : World) : Calls Try.prog 29 #[] w fun e w' => e = .returned (.slice (opsAt w.heap.size) 8 8) ∧ w.heap.size < w'.heap.size ∧ (∀ j o, opsL[j]? = some o → w'.cell? ⟨w.heap.size, j, none⟩ = some (.string o)) ∧ Below w.heap.size w w' := by
  have hb0 : Below w.heap.size w (w.alloc opsObj) := (Below.refl _ _).alloc (Nat.le_refl _) _
  have hS : ∀ j o, opsL[j]? = some o → (w.alloc opsObj).cell? ⟨w.heap.size, j, none⟩ = some (.string o) := by
    intro j o ho
    rw [cell_of_row _ w.heap.size j _ _ (0, 0) (heap_alloc_new w opsObj)]
    have : (opsL.map Value.string)[j]? = some (.string o) := by rw [List.getElem?_map, ho]; rfl
    simpa [opsL, opB] using this
  have hz : w.heap.size < (w.alloc opsObj).heap.size := by simp
  unfold opsObj at hS hb0 hz
  go_enter Try.func29, Try.ntmps29
  go_wp2
  go_ret
  exact ⟨rfl, hz, hS, hb0⟩
end Go.Proofs.Ytdlddkgmjpmenaa
/-
  The language: the numbers of lines of all operations, both ways.
-/
namespace Go.Proofs.Ytdlddkgmjpmenaa
open Go.RowKit
set_option linter.unusedVariables false
set_option linter.unusedSimpArgs false

theorem boundC_at {l : List Int} {k i : Nat} (h : boundC l k) (hi : l[i]? = some (l.getD i 0)) : 0 ≤ l.getD i 0 ∧ l.getD i 0 ≤ k := h i _ hi
theorem good_len {ls : List Ln} (hg : laGoodF ls = true) : ls.length ≤ 30 := by
  unfold laGoodF at hg
  rw [Bool.and_eq_true] at hg
  simpa using hg.1
theorem made_row {w : World} {B g : Nat} (h : w.ownsRow B 3 1 (.slice (some ⟨g, 0, none⟩) 10 10) 10 (madeCells (Value.int .i64 0).cells (10 * 1)).toList) : w.ownsRow B 3 1 (.slice (some ⟨g, 0, none⟩) 10 10) 10 ((List.replicate 10 (0 : Int)).map (Value.int .i64)) := by
  rw [show (Value.int IntKind.i64 0).cells = #[.int .i64 0] from rfl, toList_madeCells_one] at h
  simpa using h
theorem row_lt {w : World} {B g : Nat} {cs : List Value} (h : w.ownsRow B 3 1 (.slice (some ⟨g, 0, none⟩) 10 10) 10 cs) : g < w.heap.size := by
  rcases h.2 with ⟨h0, _⟩ | ⟨g', cap', cur, hv, _, hb, _⟩
  · cases h0
  · cases hv
    exact (Array.getElem?_eq_some_iff.1 hb).1
set_option maxRecDepth 100000 in
set_option maxHeartbeats 8000000 in
theorem impl_CountOps_any (w : World) (ao : Option Addr) (n c : Nat) (ls : List Ln) (h : Lns w w.heap.size ao n ls) (hs : okS ls) (hnc : n ≤ c) :
    Calls Try.prog 8 #[.slice ao n c] w (RetIB (countOpsF ls) w) := by
  have hn := h.le
  have hl := Lib.hid h.1
  obtain ⟨i0, hi, hz0, hz1, hz2⟩ := info_parts int_info
  cases hg : laGoodF ls
  · have HF : Hid (countOpsF ls = ([], false)) := by show _ = _; unfold countOpsF; rw [hg]; simp
    have HG := Lib.hid hg
    clear hg
    go_enter Try.func8, Try.ntmps8
    go_wp2_with fail
    refine (impl_IsProgram_any _ _ _ _ _ h hs hnc).mono ?_
    rintro e w1 ⟨rfl, hb1⟩
    rw [HG.out]
    go_wp2_with fail
    go_ret2
    exact RetIB.eq HF.out (OwnI.nil _ _ _) hb1
  have HF : Hid (countOpsF ls = (countsOf ls, true)) := by show _ = _; unfold countOpsF; rw [if_pos hg]
  have h30 := good_len hg
  rw [hl.out] at h30
  have HG := Lib.hid hg
  clear hg
  go_enter Try.func8, Try.ntmps8
  go_wp2_with fail
  refine (impl_IsProgram_any _ _ _ _ _ h hs hnc).mono ?_
  rintro e w1 ⟨rfl, hb1⟩
  rw [HG.out]
  go_wp2_with (at_make; refine wpList_make_full _ rfl _ _ 24 rfl w1.heap.size 3 i0 (.int .i64 0) 1 Try.underlying24 hi hz0 hz1 _ _ _ _ 10 rfl rfl rfl rfl (by rw [hz2]; omega) (by unfold maxLen; omega) (Nat.le_refl _) ?_; intro w2 hown2 hg2)
  have hrow2 := made_row hown2
  have hgl := row_lt hrow2
  have hb2 : Below w1.heap.size w1 w2 := (Below.refl _ _).grown hg2 (Nat.le_refl _) (by simp)
  clear hown2 hg2
  obtain ⟨g, hgd⟩ : ∃ g, g = w1.heap.size := ⟨_, rfl⟩
  have hbw2 := hb1.trans (hb2.mono hb1.size)
  have hwg : w.heap.size ≤ g := by rw [hgd]; exact hb1.size
  rw [← hgd] at hrow2 hgl ⊢
  clear hb2 hgd
  go_loopw [13] (fun i wr => ∃ k : Nat, k ≤ n ∧ i = .int .i64 k ∧ wr.ownsRow g 3 1 (.slice (some ⟨g, 0, none⟩) 10 10) 10 ((countsOf (ls.take k)).map (Value.int .i64)) ∧ Hid (boundC (countsOf (ls.take k)) k) ∧ Below w.heap.size w wr ∧ g < wr.heap.size) (fun i _ => n - (intOf i).toNat)
  case atStart => exact ⟨0, Nat.zero_le _, rfl, by simpa [countsOf] using hrow2, by intro i v hv; rw [List.take_zero] at hv; simp only [countsOf, List.foldl_nil, List.getElem?_replicate] at hv; split at hv <;> simp at hv; omega, hbw2, hgl⟩
  case round =>
    obtain ⟨k, hk, rfl, hrow, HB, hbel, hgr⟩ := hrel
    by_cases hlt : k < n
    · obtain ⟨b, o, l, pa, pc, rfl, hb, hx, hps, g0, g1, g2, g3, g4, g5, g6⟩ := (h.below hbel (Nat.le_refl _)).at hlt
      have HS := Lib.hid (countsOf_step hx)
      have HB2 := Lib.hid (bound_step HB.out l)
      have HOP := Lib.hid (fun hk3 => op_place (good_op HG.out hx hk3))
      obtain ⟨cur, hcur⟩ : ∃ cur, cur = countsOf (ls.take k) := ⟨_, rfl⟩
      rw [← hcur] at hrow HB HS HB2
      have HR := Lib.hid hrow
      clear hx hcur hrow
      obtain ⟨W2, hW2⟩ : ∃ W2, W2 = wr.alloc (lineObj l pa pc) := ⟨_, rfl⟩
      have hal : Below wr.heap.size wr W2 := by rw [hW2]; exact (Below.refl _ _).alloc (Nat.le_refl _) _
      have hbx : BoxL W2 wr.heap.size l pa pc := by rw [hW2]; exact boxL_new _ _ _ _
      have hszW : wr.heap.size < W2.heap.size := by rw [hW2]; simp
      have HW2 := Lib.hid hW2
      clear hW2
      obtain ⟨e0, e1, e2, e3, e4, e5, e6⟩ := hbx
      have hbel2 := hbel.trans (hal.mono hbel.size)
      have HR2 := Lib.hid (ownsRow_below HR.out hal (Nat.le_refl _))
      unfold lineObj at HW2
      by_cases k3 : l.kind = 3
      · obtain ⟨ch, i, hop, hi8, hoi, hib, _⟩ := HOP.out k3
        have HST : Hid (countStep cur l = bump cur i) := by show _ = _; unfold countStep slotOf; rw [if_pos k3, hoi]
        have HIB := Lib.hid hib
        have a3 : (l.kind == 3) = true := by simp [k3]
        rw [hop] at e2 HW2 g2
        clear hib hop hoi k3
        obtain ⟨ec, hc, hf, hrs, hgs⟩ := row_at HR2.out (i := i) (by omega)
        have hbv := boundC_at HB.out ec
        unfold opB at e2 HW2 g2
        obtain ⟨v, hv⟩ : ∃ v, v = cur.getD i 0 := ⟨_, rfl⟩
        rw [← hv] at hc hrs hgs hbv
        have HRS := Lib.hid hrs
        have HGS := Lib.hid hgs
        have hi10 : (i : Int) < 10 := by omega
        have hi10' : i < 10 := by omega
        clear hv hrs hgs ec
        go_wp2_with (first | rw [← HW2.out] | (go_at_call 28; refine (indexOps_any _ _).mono ?_; rintro e w' ⟨rfl, rfl⟩; rw [HIB.out]))
        go_roundw
        case rel => exact ⟨k + 1, by omega, by go_num, by rw [HS.out, HST.out]; exact HRS.out, by rw [HS.out]; exact HB2.out, hbel2.grown HGS.out hbel2.size (by simp; omega), Nat.lt_of_lt_of_le (Nat.lt_trans hgr hszW) HGS.out.size⟩
        case measure => simp [intOf] <;> omega
      have a3 : (l.kind == 3) = false := by simp [k3]
      by_cases k4 : l.kind = 4
      · have HST : Hid (countStep cur l = bump cur 8) := by show _ = _; unfold countStep slotOf; rw [if_neg k3, if_pos k4]
        have a4 : (l.kind == 4) = true := by simp [k4]
        clear k3 k4
        obtain ⟨ec, hc, hf, hrs, hgs⟩ := row_at HR2.out (i := 8) (by omega)
        have hbv := boundC_at HB.out ec
        obtain ⟨v, hv⟩ : ∃ v, v = cur.getD 8 0 := ⟨_, rfl⟩
        rw [← hv] at hc hrs hgs hbv
        have HRS := Lib.hid hrs
        have HGS := Lib.hid hgs
        clear hv hrs hgs ec
        go_wp2_with (rw [← HW2.out])
        go_roundw
        case rel => exact ⟨k + 1, by omega, by go_num, by rw [HS.out, HST.out]; exact HRS.out, by rw [HS.out]; exact HB2.out, hbel2.grown HGS.out hbel2.size (by simp; omega), Nat.lt_of_lt_of_le (Nat.lt_trans hgr hszW) HGS.out.size⟩
        case measure => simp [intOf] <;> omega
      have a4 : (l.kind == 4) = false := by simp [k4]
      by_cases k5 : l.kind = 5
      · have HST : Hid (countStep cur l = bump cur 9) := by show _ = _; unfold countStep slotOf; rw [if_neg k3, if_neg k4, if_pos k5]
        have a5 : (l.kind == 5) = true := by simp [k5]
        clear k3 k4 k5
        obtain ⟨ec, hc, hf, hrs, hgs⟩ := row_at HR2.out (i := 9) (by omega)
        have hbv := boundC_at HB.out ec
        obtain ⟨v, hv⟩ : ∃ v, v = cur.getD 9 0 := ⟨_, rfl⟩
        rw [← hv] at hc hrs hgs hbv
        have HRS := Lib.hid hrs
        have HGS := Lib.hid hgs
        clear hv hrs hgs ec
        go_wp2_with (rw [← HW2.out])
        go_roundw
        case rel => exact ⟨k + 1, by omega, by go_num, by rw [HS.out, HST.out]; exact HRS.out, by rw [HS.out]; exact HB2.out, hbel2.grown HGS.out hbel2.size (by simp; omega), Nat.lt_of_lt_of_le (Nat.lt_trans hgr hszW) HGS.out.size⟩
        case measure => simp [intOf] <;> omega
      · have HST : Hid (countStep cur l = cur) := by show _ = _; unfold countStep slotOf; rw [if_neg k3, if_neg k4, if_neg k5]
        have a5 : (l.kind == 5) = false := by simp [k5]
        clear k3 k4 k5
        go_wp2_with (rw [← HW2.out])
        go_roundw
        case rel => exact ⟨k + 1, by omega, by go_num, by rw [HS.out, HST.out]; exact HR2.out, by rw [HS.out]; exact HB2.out, hbel2, Nat.lt_trans hgr hszW⟩
        case measure => simp [intOf] <;> omega
    · obtain rfl : k = n := by omega
      rw [List.take_of_length_le (by rw [hl.out]; exact Nat.le_refl _)] at hrow
      go_wp2_with fail
      go_ret2
      exact RetIB.eq HF.out ((row_own hrow).up (by omega)) hbel
end Go.Proofs.Ytdlddkgmjpmenaa
/-
  The language: the numbers of lines of all operations, the reference.
-/
namespace Go.Proofs.Ytdlddkgmjpmenaa
open Go.RowKit
set_option linter.unusedVariables false
set_option linter.unusedSimpArgs false

set_option maxRecDepth 100000 in
set_option maxHeartbeats 8000000 in
theorem spec_CountOps_any (w : World) (ao : Option Addr) (n c : Nat) (ls : List Ln) (h : Lns w w.heap.size ao n ls) (hs : okS ls) (hn20 : n ≤ 1048576) (hnc : n ≤ c) :
    Calls Try.prog 9 #[.slice ao n c] w (RetIB (countOpsF ls) w) := by
  have hn := h.le
  have hl := Lib.hid h.1
  obtain ⟨i0, hi, hz0, hz1, hz2⟩ := info_parts int_info
  cases hg : laGoodF ls
  · have HF : Hid (countOpsF ls = ([], false)) := by show _ = _; unfold countOpsF; rw [hg]; simp
    have HG := Lib.hid hg
    clear hg
    go_enter Try.func9, Try.ntmps9
    go_wp2_with fail
    refine (laGood_any _ _ _ _ _ h hs hnc).mono ?_
    rintro e w1 ⟨rfl, hb1⟩
    rw [HG.out]
    go_wp2_with fail
    go_ret2
    exact RetIB.eq HF.out (OwnI.nil _ _ _) hb1
  have HF : Hid (countOpsF ls = (countsOf ls, true)) := by show _ = _; unfold countOpsF; rw [if_pos hg]
  have h30 := good_len hg
  rw [hl.out] at h30
  have HG := Lib.hid hg
  clear hg
  go_enter Try.func9, Try.ntmps9
  go_wp2_with fail
  refine (laGood_any _ _ _ _ _ h hs hnc).mono ?_
  rintro e w1 ⟨rfl, hb1⟩
  rw [HG.out]
  go_wp2_with (at_make; refine wpList_make_full _ rfl _ _ 24 rfl w1.heap.size 3 i0 (.int .i64 0) 1 Try.underlying24 hi hz0 hz1 _ _ _ _ 10 rfl rfl rfl rfl (by rw [hz2]; omega) (by unfold maxLen; omega) (Nat.le_refl _) ?_; intro w2 hown2 hg2)
  have hrow2 := made_row hown2
  have hgl := row_lt hrow2
  have hb2 : Below w1.heap.size w1 w2 := (Below.refl _ _).grown hg2 (Nat.le_refl _) (by simp)
  clear hown2 hg2
  obtain ⟨g, hgd⟩ : ∃ g, g = w1.heap.size := ⟨_, rfl⟩
  have hbw2 := hb1.trans (hb2.mono hb1.size)
  have hwg : w.heap.size ≤ g := by rw [hgd]; exact hb1.size
  rw [← hgd] at hrow2 hgl ⊢
  clear hb2 hgd
  go_loopw [15] (fun i wr => ∃ k : Nat, k ≤ n ∧ i = .int .i64 k ∧ wr.ownsRow g 3 1 (.slice (some ⟨g, 0, none⟩) 10 10) 10 ((countsOf (ls.take k)).map (Value.int .i64)) ∧ Hid (boundC (countsOf (ls.take k)) k) ∧ Below w.heap.size w wr ∧ g < wr.heap.size) (fun i _ => n - (intOf i).toNat)
  case atStart => exact ⟨0, Nat.zero_le _, rfl, by simpa [countsOf] using hrow2, by intro i v hv; rw [List.take_zero] at hv; simp only [countsOf, List.foldl_nil, List.getElem?_replicate] at hv; split at hv <;> simp at hv; omega, hbw2, hgl⟩
  case round =>
    obtain ⟨k, hk, rfl, hrow, HB, hbel, hgr⟩ := hrel
    by_cases hlt : k < n
    · obtain ⟨b, o, l, pa, pc, rfl, hb, hx, hps, g0, g1, g2, g3, g4, g5, g6⟩ := (h.below hbel (Nat.le_refl _)).at hlt
      have HS := Lib.hid (countsOf_step hx)
      have HB2 := Lib.hid (bound_step HB.out l)
      have HOP := Lib.hid (fun hk3 => op_place (good_op HG.out hx hk3))
      obtain ⟨cur, hcur⟩ : ∃ cur, cur = countsOf (ls.take k) := ⟨_, rfl⟩
      rw [← hcur] at hrow HB HS HB2
      have HR := Lib.hid hrow
      clear hx hcur hrow
      obtain ⟨W2, hW2⟩ : ∃ W2, W2 = wr.alloc (lineObj l pa pc) := ⟨_, rfl⟩
      have hal : Below wr.heap.size wr W2 := by rw [hW2]; exact (Below.refl _ _).alloc (Nat.le_refl _) _
      have hbx : BoxL W2 wr.heap.size l pa pc := by rw [hW2]; exact boxL_new _ _ _ _
      have hszW : wr.heap.size < W2.heap.size := by rw [hW2]; simp
      have HW2 := Lib.hid hW2
      clear hW2
      obtain ⟨e0, e1, e2, e3, e4, e5, e6⟩ := hbx
      have hbel2 := hbel.trans (hal.mono hbel.size)
      have HR2 := Lib.hid (ownsRow_below HR.out hal (Nat.le_refl _))
      unfold lineObj at HW2
      have hbe3 := hbel2
      have OPS := Lib.hid (fun (hk3 : l.kind = 3) => HOP.out hk3)
      go_wp2_with (rw [← HW2.out])
      refine (laOps3_any _).mono ?_
      rintro e w3 ⟨rfl, hlt3, hcell3, hb3⟩
      have hbel3 := hbel2.trans (hb3.mono hbel2.size)
      have hR3 := ownsRow_below HR2.out hb3 (Nat.le_refl _)
      have hbx3 := (show BoxL W2 wr.heap.size l pa pc from ⟨e0, e1, e2, e3, e4, e5, e6⟩).below hb3 hszW
      have HBX3 := Lib.hid hbx3
      have HCELL := Lib.hid hcell3
      have HR3 := Lib.hid hR3
      have hg3 : g < w3.heap.size := by have := hb3.size; omega
      have hbxg : wr.heap.size ≠ g := by omega
      have hopg : W2.heap.size ≠ g := by omega
      have hbx3s : wr.heap.size < w3.heap.size := by have := hb3.size; omega
      clear e0 e1 e2 e3 e4 e5 e6 hbx3 hcell3 hR3 g0 g1 g2 g3 g4 g5 g6
      unfold opsAt
      go_wp2_with fail
      obtain ⟨bx, hbxe⟩ : ∃ bx, bx = wr.heap.size := ⟨_, rfl⟩
      obtain ⟨bo, hboe⟩ : ∃ bo, bo = W2.heap.size := ⟨_, rfl⟩
      rw [← hbxe] at HBX3 hbxg hbx3s ⊢
      rw [← hboe] at HCELL hopg hlt3 ⊢
      have h1bx : bx < w3.heap.size := hbx3s
      clear hbxe hboe
      by_cases k3 : l.kind = 3
      · obtain ⟨ch, i, hop, hi8, hoi, hib, hun⟩ := HOP.out k3
        have HST : Hid (countStep cur l = bump cur i) := by show _ = _; unfold countStep slotOf; rw [if_pos k3, hoi]
        have HUN := Lib.hid hun
        have a3 : (l.kind == 3) = true := by simp [k3]
        have a4 : (l.kind == 4) = false := by simp [k3]
        have a5 : (l.kind == 5) = false := by simp [k3]
        clear hun hib hoi k3 hop
        go_loopw [21] (fun j wq => ∃ (m : Nat), m ≤ 8 ∧ j = .int .i64 m ∧ wq.ownsRow g 3 1 (.slice (some ⟨g, 0, none⟩) 10 10) 10 ((if i < m then bump cur i else cur).map (Value.int .i64)) ∧ w3.grownBy wq (some g)) (fun j _ => 8 - (intOf j).toNat)
        case atStart => exact ⟨0, Nat.zero_le _, rfl, by rw [if_neg (Nat.not_lt_zero _)]; exact HR3.out, World.grownBy.refl _ _⟩
        case round =>
          obtain ⟨m, hm, rfl, hrq, hgq⟩ := hrel
          have hbxq : BoxL wr bx l pa pc := ⟨(hgq.cell_far ⟨bx, 0, none⟩ h1bx (by simpa using hbxg)).trans HBX3.out.1, (hgq.cell_far ⟨bx, 1, none⟩ h1bx (by simpa using hbxg)).trans HBX3.out.2.1, (hgq.cell_far ⟨bx, 2, none⟩ h1bx (by simpa using hbxg)).trans HBX3.out.2.2.1, (hgq.cell_far ⟨bx, 3, none⟩ h1bx (by simpa using hbxg)).trans HBX3.out.2.2.2.1, (hgq.cell_far ⟨bx, 4, none⟩ h1bx (by simpa using hbxg)).trans HBX3.out.2.2.2.2.1, (hgq.cell_far ⟨bx, 5, none⟩ h1bx (by simpa using hbxg)).trans HBX3.out.2.2.2.2.2.1, (hgq.cell_far ⟨bx, 6, none⟩ h1bx (by simpa using hbxg)).trans HBX3.out.2.2.2.2.2.2⟩
          obtain ⟨e0, e1, e2, e3, e4, e5, e6⟩ := hbxq
          have HRQ := Lib.hid hrq
          clear hrq
          by_cases hm8 : m < 8
          · obtain ⟨oj, hoj⟩ : ∃ oj, opsL[m]? = some oj := ⟨opsL[m]'hm8, List.getElem?_eq_getElem hm8⟩
            have qc := (hgq.cell_far ⟨bo, m, none⟩ hlt3 (by simpa using hopg)).trans (HCELL.out m oj hoj)
            have hud := HUN.out m oj hoj
            rw [beq_toListBytes] at hud
            by_cases hmi : m = i
            · have ub : (l.op.toList == oj.toList) = true := by rw [hud]; simpa using hmi
              have hnm : (if i < m then bump cur i else cur) = cur := if_neg (by omega)
              rw [hnm] at HRQ
              obtain ⟨ec, hc, hf, hrs, hgs⟩ := row_at HRQ.out (i := m) (by omega)
              have hbv := boundC_at HB.out ec
              obtain ⟨v, hv⟩ : ∃ v, v = cur.getD m 0 := ⟨_, rfl⟩
              rw [← hv] at hc hrs hgs hbv
              have HRS := Lib.hid hrs
              have HGS := Lib.hid hgs
              have hm10 : m < 10 := by omega
              have hm10' : (m : Int) < 10 := by omega
              have HMI := Lib.hid hmi
              clear hv hrs hgs ec hud hoj hmi
              go_wp2_with fail
              go_roundw
              case rel => exact ⟨m + 1, by omega, by go_num, by rw [if_pos (by have := HMI.out; omega), ← HMI.out]; exact HRS.out, ⟨HGS.out.os.trans hgq.os, HGS.out.tape.trans hgq.tape, HGS.out.output.trans hgq.output, Nat.le_trans hgq.size HGS.out.size, fun j hj hne => (HGS.out.block j (Nat.lt_of_lt_of_le hj hgq.size) hne).trans (hgq.block j hj hne)⟩⟩
              case measure => simp [intOf] <;> omega
            · have ub : (l.op.toList == oj.toList) = false := by rw [hud]; simpa using hmi
              clear hud hoj
              go_wp2_with fail
              go_roundw
              case rel => exact ⟨m + 1, by omega, by go_num, by
                have h9 := HRQ.out
                by_cases him : i < m
                · rw [if_pos him] at h9; rw [if_pos (by omega)]; exact h9
                · rw [if_neg him] at h9; rw [if_neg (by omega)]; exact h9, hgq⟩
              case measure => simp [intOf] <;> omega
          · obtain rfl : m = 8 := by omega
            rw [if_pos hi8] at HRQ
            go_wp2_with fail
            go_roundw
            case rel => exact ⟨k + 1, by omega, by go_num, by rw [HS.out, HST.out]; exact HRQ.out, by rw [HS.out]; exact HB2.out, hbel3.grown hgq hbel3.size (by simp; omega), Nat.lt_of_lt_of_le hg3 hgq.size⟩
            case measure => simp [intOf] <;> omega
      have a3 : (l.kind == 3) = false := by simp [k3]
      go_loopw [21] (fun j wq => ∃ (m : Nat), m ≤ 8 ∧ j = .int .i64 m ∧ wq.ownsRow g 3 1 (.slice (some ⟨g, 0, none⟩) 10 10) 10 (cur.map (Value.int .i64)) ∧ w3.grownBy wq (some g)) (fun j _ => 8 - (intOf j).toNat)
      case atStart => exact ⟨0, Nat.zero_le _, rfl, HR3.out, World.grownBy.refl _ _⟩
      case round =>
        obtain ⟨m, hm, rfl, hrq, hgq⟩ := hrel
        have hbxq : BoxL wr bx l pa pc := ⟨(hgq.cell_far ⟨bx, 0, none⟩ h1bx (by simpa using hbxg)).trans HBX3.out.1, (hgq.cell_far ⟨bx, 1, none⟩ h1bx (by simpa using hbxg)).trans HBX3.out.2.1, (hgq.cell_far ⟨bx, 2, none⟩ h1bx (by simpa using hbxg)).trans HBX3.out.2.2.1, (hgq.cell_far ⟨bx, 3, none⟩ h1bx (by simpa using hbxg)).trans HBX3.out.2.2.2.1, (hgq.cell_far ⟨bx, 4, none⟩ h1bx (by simpa using hbxg)).trans HBX3.out.2.2.2.2.1, (hgq.cell_far ⟨bx, 5, none⟩ h1bx (by simpa using hbxg)).trans HBX3.out.2.2.2.2.2.1, (hgq.cell_far ⟨bx, 6, none⟩ h1bx (by simpa using hbxg)).trans HBX3.out.2.2.2.2.2.2⟩
        obtain ⟨e0, e1, e2, e3, e4, e5, e6⟩ := hbxq
        have HRQ := Lib.hid hrq
        clear hrq
        by_cases hm8 : m < 8
        · obtain ⟨oj, hoj⟩ : ∃ oj, opsL[m]? = some oj := ⟨opsL[m]'hm8, List.getElem?_eq_getElem hm8⟩
          have qc := (hgq.cell_far ⟨bo, m, none⟩ hlt3 (by simpa using hopg)).trans (HCELL.out m oj hoj)
          clear hoj
          go_wp2_with fail
          go_roundw
          case rel => exact ⟨m + 1, by omega, by go_num, HRQ.out, hgq⟩
          case measure => simp [intOf] <;> omega
        obtain rfl : m = 8 := by omega
        clear hm8
        by_cases k4 : l.kind = 4
        · have HST : Hid (countStep cur l = bump cur 8) := by show _ = _; unfold countStep slotOf; rw [if_neg k3, if_pos k4]
          have a4 : (l.kind == 4) = true := by simp [k4]
          clear k3 k4
          obtain ⟨ec, hc, hf, hrs, hgs⟩ := row_at HRQ.out (i := 8) (by omega)
          have hbv := boundC_at HB.out ec
          obtain ⟨v, hv⟩ : ∃ v, v = cur.getD 8 0 := ⟨_, rfl⟩
          rw [← hv] at hc hrs hgs hbv
          have HRS := Lib.hid hrs
          have HGS := Lib.hid hgs
          clear hv hrs hgs ec
          go_wp2_with fail
          go_roundw
          case rel => exact ⟨k + 1, by omega, by go_num, by rw [HS.out, HST.out]; exact HRS.out, by rw [HS.out]; exact HB2.out, (hbel3.grown hgq hbel3.size (by simp; omega)).grown HGS.out (Nat.le_trans hbel3.size hgq.size) (by simp; omega), Nat.lt_of_lt_of_le hg3 (Nat.le_trans hgq.size HGS.out.size)⟩
          case measure => simp [intOf] <;> omega
        have a4 : (l.kind == 4) = false := by simp [k4]
        by_cases k5 : l.kind = 5
        · have HST : Hid (countStep cur l = bump cur 9) := by show _ = _; unfold countStep slotOf; rw [if_neg k3, if_neg k4, if_pos k5]
          have a5 : (l.kind == 5) = true := by simp [k5]
          clear k3 k4 k5
          obtain ⟨ec, hc, hf, hrs, hgs⟩ := row_at HRQ.out (i := 9) (by omega)
          have hbv := boundC_at HB.out ec
          obtain ⟨v, hv⟩ : ∃ v, v = cur.getD 9 0 := ⟨_, rfl⟩
          rw [← hv] at hc hrs hgs hbv
          have HRS := Lib.hid hrs
          have HGS := Lib.hid hgs
          clear hv hrs hgs ec
          go_wp2_with fail
          go_roundw
          case rel => exact ⟨k + 1, by omega, by go_num, by rw [HS.out, HST.out]; exact HRS.out, by rw [HS.out]; exact HB2.out, (hbel3.grown hgq hbel3.size (by simp; omega)).grown HGS.out (Nat.le_trans hbel3.size hgq.size) (by simp; omega), Nat.lt_of_lt_of_le hg3 (Nat.le_trans hgq.size HGS.out.size)⟩
          case measure => simp [intOf] <;> omega
        have a5 : (l.kind == 5) = false := by simp [k5]
        have HST : Hid (countStep cur l = cur) := by show _ = _; unfold countStep slotOf; rw [if_neg k3, if_neg k4, if_neg k5]
        clear k3 k4 k5
        go_wp2_with fail
        go_roundw
        case rel => exact ⟨k + 1, by omega, by go_num, by rw [HS.out, HST.out]; exact HRQ.out, by rw [HS.out]; exact HB2.out, hbel3.grown hgq hbel3.size (by simp; omega), Nat.lt_of_lt_of_le hg3 hgq.size⟩
        case measure => simp [intOf] <;> omega
    · obtain rfl : k = n := by omega
      rw [List.take_of_length_le (by rw [hl.out]; exact Nat.le_refl _)] at hrow
      go_wp2_with fail
      go_ret2
      exact RetIB.eq HF.out ((row_own hrow).up (by omega)) hbel
end Go.Proofs.Ytdlddkgmjpmenaa
