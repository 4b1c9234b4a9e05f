/-
  The language: the program's look-up of a name.
-/
import Derived.Test.YtdlddkgmjpmenaaGreatDoorLi2
namespace Go.Proofs.YtdlddkgmjpmenaaGreatDoor
open Go.RowKit
set_option linter.unusedVariables false
set_option linter.unusedSimpArgs false

theorem lineOf1_any (w : World) (l : Ln) (pa : Option Addr) (pc nb : Nat) (name : ByteArray) (hc : w.cell? ⟨nb, 0, none⟩ = some (.string name)) (hnb : nb < w.heap.size) :
    Calls Tryz.prog 80 #[lineV l pa pc, .pointer (some ⟨nb, 0, none⟩)] w fun e w' => e = .returned (.bool (lineB name l)) ∧ Below w.heap.size w w' := by
  obtain ⟨W2, hW2⟩ : ∃ W2, W2 = w.alloc (lineObj l pa pc) := ⟨_, rfl⟩
  have hal : Below w.heap.size w W2 := by rw [hW2]; exact (Below.refl _ _).alloc (Nat.le_refl _) _
  have hbx : BoxL W2 w.heap.size l pa pc := by rw [hW2]; exact boxL_new _ _ _ _
  have HW2 := Lib.hid hW2
  clear hW2
  have hc2 : W2.cell? ⟨nb, 0, none⟩ = some (.string name) := (hal.cell (p := ⟨nb, 0, none⟩) hnb).trans hc
  obtain ⟨e0, e1, e2, e3, e4, e5, e6⟩ := hbx
  unfold lineObj at HW2
  unfold lineV
  by_cases hn : l.name = name
  · have sb := seq_yes hn
    have HF : Hid (lineB name l = true) := by show _ = _; simp [lineB, hn]
    clear hn
    go_enter Tryz.func80, Tryz.ntmps80
    go_wp2_with (rw [← HW2.out])
    go_ret
    exact ⟨ret_bool HF.out.symm, hal⟩
  · have sb := seq_no hn
    have HF : Hid (lineB name l = false) := by show _ = _; rw [lineB, bytes_beq_no.2 hn]
    go_enter Tryz.func80, Tryz.ntmps80
    go_wp2_with (rw [← HW2.out])
    go_ret
    exact ⟨ret_bool HF.out.symm, hal⟩
def idxL (name : ByteArray) (ls : List Ln) : Int := match ls.findIdx? (lineB name) with | some i => (i : Int) | none => -1
theorem indexFuncL_any (w : World) (B : Nat) (ao : Option Addr) (n c nb : Nat) (ls : List Ln) (name : ByteArray) (h : Lns w B ao n ls) (hB : B ≤ w.heap.size) (hc : w.cell? ⟨nb, 0, none⟩ = some (.string name)) (hnb : nb < w.heap.size) :
    Calls Tryz.prog 79 #[.slice ao n c, .func (.func 80) #[] #[.pointer (some ⟨nb, 0, none⟩)]] w (RetN (idxL name ls) w) := by
  have hn := h.le
  have hl := Lib.hid h.1
  have hen : ∀ (args : Array Value) (W : World), (callFunc 80 args).run Tryz.prog W = .ok (.enter 80 args) W := fun _ _ => by kernel_rfl
  go_enter Tryz.func79, Tryz.ntmps79
  go_wp2
  go_loopw [8] (fun i wr => ∃ k : Nat, k ≤ n ∧ i = .int .i64 k ∧ Hid (∀ (j : Nat) (y : Ln), j < k → ls[j]? = some y → lineB name y = false) ∧ Below w.heap.size w wr) (fun i _ => n - (intOf i).toNat)
  case atStart => exact ⟨0, Nat.zero_le _, rfl, by intro j y hj; omega, Below.refl _ _⟩
  case round =>
    obtain ⟨k, hk, rfl, hlow, hbel⟩ := hrel
    by_cases hlt : k < n
    · obtain ⟨b, o, l, pa, pc, rfl, hb, hx, hps, g0, g1, g2, g3, g4, g5, g6⟩ := (h.below hbel hB).at hlt
      have HX := Lib.hid hx
      have HC := Lib.hid (lineOf1_any wr l pa pc nb name ((hbel.cell (p := ⟨nb, 0, none⟩) hnb).trans hc) (Nat.lt_of_lt_of_le hnb hbel.size))
      unfold lineV at HC
      clear hx
      cases hpx : lineB name l
      · have HP := Lib.hid hpx
        clear hpx
        go_wp2_with (with_reducible refine (HC.out).mono ?_; rintro e w1 ⟨rfl, hbx⟩; rw [HP.out])
        go_roundw
        case rel => exact ⟨k + 1, by omega, by go_num, by
          intro j y hj hy
          by_cases he : j = k
          · subst he; rw [HX.out] at hy; simp at hy; rw [← hy]; exact HP.out
          · exact hlow.out j y (by omega) hy, hbel.trans (hbx.mono hbel.size)⟩
        case measure => simp [intOf] <;> omega
      · have HP := Lib.hid hpx
        clear hpx
        go_wp2_with (with_reducible refine (HC.out).mono ?_; rintro e w1 ⟨rfl, hbx⟩; rw [HP.out])
        go_ret
        exact ⟨ret_int (by rw [idxL, findIdx_some HX.out HP.out hlow.out]), hbel.trans (hbx.mono hbel.size)⟩
    · obtain rfl : k = n := by omega
      go_wp2
      go_ret
      exact ⟨ret_int (by rw [idxL, findIdx_none fun j y hy => hlow.out j y (by rw [← hl.out]; exact (List.getElem?_eq_some_iff.1 hy).1) hy]), hbel⟩
theorem lineOf_any (w : World) (B : Nat) (ao : Option Addr) (n c : Nat) (ls : List Ln) (name : ByteArray) (h : Lns w B ao n ls) (hB : B ≤ w.heap.size) :
    Calls Tryz.prog 47 #[.slice ao n c, .string name] w (RetN (lineF ls name) w) := by
  obtain ⟨W2, hW2⟩ : ∃ W2, W2 = w.alloc (.cells #[.string name] 9) := ⟨_, rfl⟩
  have hal : Below w.heap.size w W2 := by rw [hW2]; exact (Below.refl _ _).alloc (Nat.le_refl _) _
  have hcell : W2.cell? ⟨w.heap.size, 0, none⟩ = some (.string name) := by
    rw [hW2, cell_of_row _ w.heap.size 0 _ _ (0, 0) (heap_alloc_new w _)]; rfl
  have hsz : w.heap.size < W2.heap.size := by rw [hW2]; simp
  have HW2 := Lib.hid hW2
  clear hW2
  have h2 := h.below hal hB
  by_cases hn : name = ByteArray.empty
  · have sb : (name.toList == []) = true := by rw [hn, empty_list]; rfl
    have HF : Hid (lineF ls name = -1) := by show _ = _; unfold lineF; rw [if_pos (by rw [hn]; simp)]
    clear hn
    go_enter Tryz.func47, Tryz.ntmps47
    go_wp2_with (rw [← HW2.out])
    go_ret
    exact ⟨ret_int HF.out.symm, hal⟩
  · have sb : (name.toList == []) = false := by rw [← empty_list]; exact seq_no hn
    have HF : Hid (lineF ls name = idxL name ls) := by show _ = _; unfold lineF; rw [if_neg (by rw [bytes_beq]; exact hn)]; rfl
    go_enter Tryz.func47, Tryz.ntmps47
    go_wp2_with (rw [← HW2.out])
    refine (indexFuncL_any _ B _ _ _ _ _ _ h2 (Nat.le_trans hB hal.size) hcell hsz).mono ?_
    rintro e w1 ⟨rfl, hb1⟩
    go_wp2_with fail
    go_ret
    exact ⟨ret_int HF.out.symm, hal.trans (hb1.mono hal.size)⟩
end Go.Proofs.YtdlddkgmjpmenaaGreatDoor
