/-
  The language: the reference's results, and whether lines are a program.
-/
import Derived.Test.YtdlddkgmjpmenaaGreatDoorLn5
namespace Go.Proofs.YtdlddkgmjpmenaaGreatDoor
open Go.RowKit
set_option linter.unusedVariables false
set_option linter.unusedSimpArgs false

theorem outsW_step {ls : List Ln} {ws : List Int} {k : Nat} {l : Ln} {v : Int} (h : ls[k]? = some l) (hv : ws[k]? = some v) (hk : k ≤ ls.length) (hk2 : k ≤ ws.length) : outsW (ls.take (k + 1)) (ws.take (k + 1)) = outsW (ls.take k) (ws.take k) ++ (if (l.kind == 6) = true then [v] else []) := by
  unfold outsW
  rw [List.take_add_one, h, List.take_add_one, hv, List.zip_append (by simp; omega), List.filter_append, List.map_append]
  congr 1
  cases hb : (l.kind == 6)
  · simp [hb]
  · simp [hb]
set_option maxHeartbeats 4000000 in
theorem laOuts_any (w : World) (ao : Option Addr) (n c : Nat) (ls : List Ln) (h : Lns w w.heap.size ao n ls) (hs : okS ls) (hn30 : n ≤ 1048576) (hnc : n ≤ c) :
    Calls Tryz.prog 55 #[.slice ao n c] w (RetI (outsW ls (laWidths ls)) w) := by
  have hl := Lib.hid h.1
  go_enter Tryz.func55, Tryz.ntmps55
  go_wp2_with fail
  refine (laWidths_any _ _ _ _ _ h hs hn30 hnc).mono ?_
  rintro e w1 ⟨a1, n1, c1, rfl, ho1, hb1⟩
  obtain rfl : n1 = n := by have := ho1.1; rw [laWidths_length, hl.out] at this; exact this.symm
  have h1 := h.below hb1 (Nat.le_refl _)
  have hI := ho1.ints
  have hil := Lib.hid ho1.1
  obtain ⟨ws, hws⟩ : ∃ ws, ws = laWidths ls := ⟨_, rfl⟩
  have HWS := Lib.hid hws
  rw [← hws] at hI hil
  clear hws ho1 h
  go_wp2_with fail
  go_loopw [3, 9] (fun out i wr => ∃ (k : Nat) (co : Option Addr) (m cap : Nat), k ≤ n1 ∧ m ≤ k ∧ i = .int .i64 k ∧ out = .slice co m cap ∧ OwnI w1.heap.size wr co m cap (outsW (ls.take k) (ws.take k)) ∧ Below w1.heap.size w1 wr) (fun _ i _ => n1 - (intOf i).toNat)
  case atStart => exact ⟨0, _, 0, 0, Nat.zero_le _, Nat.le_refl _, rfl, rfl, by simpa [outsW] using OwnI.nil _ _ _, Below.refl _ _⟩
  case round =>
    obtain ⟨k, co, m, cap, hk, hmk, rfl, rfl, hout, hbel⟩ := hrel
    by_cases hlt : k < n1
    · obtain ⟨b, o, l, pa, pc, rfl, hb, hx, hps, g0, g1, g2, g3, g4, g5, g6⟩ := (h1.below hbel hb1.size).at hlt
      obtain ⟨b2, o2, v, rfl, hb2, hv, q2⟩ := (hI.below hbel (Nat.le_refl _)).at hlt
      have HS := Lib.hid (outsW_step hx hv (by rw [hl.out]; exact hk) (by rw [hil.out]; exact hk))
      clear hx hv
      cases hk6 : (l.kind == 6)
      · have HS2 : Hid (outsW (ls.take (k + 1)) (ws.take (k + 1)) = outsW (ls.take k) (ws.take k)) := by show _ = _; rw [HS.out, hk6]; simp
        go_wp2_with fail
        go_roundw
        case rel => exact ⟨k + 1, co, m, cap, by omega, by omega, by go_num, rfl, by rw [HS2.out]; exact hout, hbel⟩
        case measure => simp [intOf] <;> omega
      · have HS2 : Hid (outsW (ls.take (k + 1)) (ws.take (k + 1)) = outsW (ls.take k) (ws.take k) ++ [v]) := by show _ = _; rw [HS.out, hk6]; simp
        go_wp2_with (at_builtin; refine wpList_append_i rfl _ _ rfl w1.heap.size _ _ _ _ _ rfl (by first | rfl | (simp; rfl)) hout (by omega) hbel.size ?_; intro ao' cap' w4 hown4 hg4)
        have hbr4 := below_append hbel hout.2.2 hg4 hbel.size
        go_roundw
        case rel => exact ⟨k + 1, ao', m + 1, cap', by omega, by omega, by go_num, rfl, by rw [HS2.out]; exact hown4, hbr4⟩
        case measure => simp [intOf] <;> omega
    · obtain rfl : k = n1 := by omega
      rw [List.take_of_length_le (by rw [hl.out]; exact Nat.le_refl _), List.take_of_length_le (by rw [hil.out]; exact Nat.le_refl _), HWS.out] at hout
      go_wp2_with fail
      go_ret
      exact ⟨_, _, _, rfl, hout.up hb1.size, hb1.trans (hbel.mono hb1.size)⟩
end Go.Proofs.YtdlddkgmjpmenaaGreatDoor
