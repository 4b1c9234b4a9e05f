/-
  Texts of programs: ProgramText, the reference's and the program's.
-/
import Derived.Test.YtdlddkgmjpmenaaGreatDoorMPt4
import Derived.Test.YtdlddkgmjpmenaaGreatDoorWd1
namespace Go.Proofs.YtdlddkgmjpmenaaGreatDoor
open Go.RowKit Go.Sort
set_option linter.unusedVariables false
set_option linter.unusedSimpArgs false

def RetTxB (r : ByteArray × Bool) (w : World) (e : Ending) (w' : World) : Prop := e = .returned (.tuple #[.string r.1, .bool r.2]) ∧ Below w.heap.size w w'
theorem RetTxB.eq {r : ByteArray × Bool} {s : ByteArray} {b : Bool} {w w' : World} (h : r = (s, b)) (hb : Below w.heap.size w w') : RetTxB r w (.returned (.tuple #[.string s, .bool b])) w' := by
  subst h; exact ⟨rfl, hb⟩
theorem tabB_on {w W : World} (h : TabB w) (hb : Below w.heap.size w W) : TabB W := fun W' h' => h W' (hb.trans (h'.mono hb.size))
set_option maxRecDepth 20000 in
set_option maxHeartbeats 8000000 in
theorem impl_ProgramText_any (w : World) (ao : Option Addr) (n c : Nat) (ls : List Ln) (h : Lns w w.heap.size ao n ls) (hs : okS ls) (hnc : n ≤ c) (htab : TabB w) :
    Calls Tryz.prog 23 #[.slice ao n c] w (RetTxB (textF ls) w) := by
  have HTB := Lib.hid htab
  have HS := Lib.hid hs
  have hl := h.1
  have HL := Lib.hid hl
  clear htab
  cases hg : laGoodF ls
  · have HF : Hid (textF ls = (ByteArray.mk #[], false)) := by show _ = _; unfold textF; rw [hg]; rfl
    have HG := Lib.hid hg
    clear hg hl
    go_enter Tryz.func23, Tryz.ntmps23
    go_wp2_with fail
    refine (impl_IsProgram_any _ _ _ _ _ h hs hnc).mono ?_
    rw [HG.out]
    rintro e w1 ⟨rfl, hb1⟩
    go_wp2_with fail
    go_ret2
    exact RetTxB.eq HF.out hb1
  · have HF : Hid (textF ls = (textB ls, true)) := by show _ = _; unfold textF; rw [hg]; rfl
    have hn30 : n ≤ 30 := by have := good_len hg; omega
    have HG := Lib.hid hg
    clear hg hl
    go_enter Tryz.func23, Tryz.ntmps23
    go_wp2_with fail
    refine (impl_IsProgram_any _ _ _ _ _ h hs hnc).mono ?_
    rw [HG.out]
    rintro e w1 ⟨rfl, hb1⟩
    have h1 := h.below hb1 (Nat.le_refl _)
    go_wp2_with fail
    go_loopw [4, 12] (fun s4 s12 wr => ∃ (k : Nat) (t : ByteArray), k ≤ n ∧ s4 = .string t ∧ s12 = .int .i64 k ∧ Hid (t = textB (ls.take k)) ∧ t.size ≤ 20000000 * k ∧ Below w.heap.size w wr) (fun _ s12 _ => n - (intOf s12).toNat)
    case atStart => exact ⟨0, _, Nat.zero_le _, rfl, rfl, rfl, Nat.le_refl _, hb1⟩
    case round =>
      obtain ⟨k, t, hk, rfl, rfl, ht, hsz, hbel⟩ := hrel
      by_cases hlt : k < n
      · obtain ⟨b1, o1, x, pa, pc, rfl, hbb, hx, hps, g0, g1, g2, g3, g4, g5, g6⟩ := (h.below hbel (Nat.le_refl _)).at hlt
        obtain ⟨q1, q2, q3, q4⟩ := line_good HG.out hx
        obtain ⟨z1, z2, z3⟩ := HS.out x (List.mem_of_getElem? hx)
        have qp : ∀ p ∈ x.parts, p.size ≤ 1048576 := fun p hp => part_size HG.out HS.out hx hp
        have HT : Hid (textB (ls.take (k + 1)) = t ++ lineT x) := by show _ = _; rw [textB_step hx, ht.out]
        have hes := lineE_size z1 z2 qp q1 q2 q3
        obtain ⟨L, hL⟩ : ∃ L, L = lineT x := ⟨_, rfl⟩
        have hls : L.size ≤ 10000001 := by rw [hL]; unfold lineT; rw [ByteArray.size_append]; show _ + 1 ≤ _; omega
        have HLT := Lib.hid hL
        rw [← hL] at HT
        have hM : ¬ 9223372036854775807 < t.size + L.size := by omega
        obtain ⟨W1, hW1⟩ : ∃ W1, W1 = wr.alloc (lineObj x pa pc) := ⟨_, rfl⟩
        have hb2 : Below wr.heap.size wr W1 := by rw [hW1]; exact (Below.refl _ _).alloc (Nat.le_refl _) _
        have hbx : BoxL W1 wr.heap.size x pa pc := by rw [hW1]; exact boxL_new _ _ _ _
        have hps1 := hps.below hb2 hbel.size
        have hbw := hbel.trans (hb2.mono hbel.size)
        have hlt1 := lineText_any W1 _ x pa pc hps1 hbw.size z1 z2 qp q1 q2 q3 q4 (tabB_on HTB.out hbw)
        have HLX := Lib.hid hlt1
        have HW1 := Lib.hid hW1
        clear hW1 hL hlt1 hps qp q1 q2 q3 q4 hes
        unfold lineObj at HW1
        unfold lineV at HLX
        obtain ⟨c0, c1, c2, c3, c4, c5, c6⟩ := hbx
        go_wp2_with (rw [← HW1.out])
        refine HLX.out.mono ?_
        rw [← HLT.out]
        rintro e w3 ⟨rfl, hb3⟩
        clear c0 c1 c2 c3 c4 c5 c6 g0 g1 g2 g3 g4 g5 g6
        go_wp2_with fail
        have hB3 := hbw.trans (hb3.mono hbw.size)
        go_roundw
        case rel => exact ⟨k + 1, t ++ L, by omega, rfl, by go_num, HT.out.symm, by rw [ByteArray.size_append]; omega, hB3⟩
        case measure => simp [intOf] <;> omega
      · obtain rfl : k = n := by omega
        have HE : Hid (t = textB ls) := by show _ = _; rw [ht.out, ← HL.out, List.take_length]
        go_wp2_with fail
        go_ret2
        exact RetTxB.eq (by rw [HF.out, HE.out]) hbel
end Go.Proofs.YtdlddkgmjpmenaaGreatDoor
