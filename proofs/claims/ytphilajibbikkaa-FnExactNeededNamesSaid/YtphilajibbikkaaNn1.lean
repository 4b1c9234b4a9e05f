/-
  The language: the names that results are made of, both ways.
-/
import Derived.Test.YtphilajibbikkaaNd3
import Derived.Test.YtphilajibbikkaaMk1
namespace Go.Proofs.Ytphilajibbikkaa
open Go.RowKit
set_option linter.unusedVariables false
set_option linter.unusedSimpArgs false

/-- 'append' of one text. -/
theorem wpList_append_s {w : World} {ops : Array Oper} {rest : List Oper} {o : Oper} {a : Act} {Q : Exit → Act → World → Prop} (hgd : o.guard = none) (s x : Operand)
    (ho : o.op = .call { callee := .builtin .append, args := #[s, x], argTypes := #[40, 40] })
    (B : Nat) (ao : Option Addr) (n cap : Nat) (ss : List ByteArray) (u : ByteArray) (hs : a.eval s = .slice ao n cap) (hx : a.eval x = .slice (some ⟨w.heap.size, 0, none⟩) 1 1)
    (hown : OwnSt B w ao n cap ss) (hn : n < 999999990) (hB : B ≤ w.heap.size)
    (h : ∀ ao' cap' w', OwnSt B w' ao' (n + 1) cap' (ss ++ [u]) → w.grownBy w' (rowOf ao cap) → wpList Try.prog ops Q rest (a.put o.dst (.slice ao' (n + 1) cap')) w') :
    wpList Try.prog ops Q (o :: rest) a (w.alloc (.cells #[.string u] 9)) :=
  wpList_append_new hgd s x 40 9 (.string ⟨#[]⟩) 1 16 Try.underlying40 str_info rfl (by decide) (by decide) ho B ao n cap (ss.map Value.string) 1 1 [.string u] hs hx rfl (by simp [Value.oneCell']) hown.2.2 (by omega) hB
    fun ao' cap' w' h1 h2 => h ao' cap' w' ⟨by simp [hown.1], by omega, by simpa using h1⟩ h2
def RetStB (r : List ByteArray × Bool) (w : World) (e : Ending) (w' : World) : Prop := ∃ ao n cap, e = .returned (.tuple #[.slice ao n cap, .bool r.2]) ∧ OwnSt w.heap.size w' ao n cap r.1 ∧ Below w.heap.size w w'
theorem RetStB.eq {r : List ByteArray × Bool} {ao : Option Addr} {n c : Nat} {xs : List ByteArray} {b : Bool} {w w' : World} (h : r = (xs, b)) (ho : OwnSt w.heap.size w' ao n c xs) (hb : Below w.heap.size w w') : RetStB r w (.returned (.tuple #[.slice ao n c, .bool b])) w' := by
  subst h; exact ⟨_, _, _, rfl, ho, hb⟩
theorem good_len2 {ls : List Ln} (hg : laGoodF ls = true) : ls.length ≤ 30 := by
  unfold laGoodF at hg
  rw [Bool.and_eq_true] at hg
  simpa using hg.1
set_option maxRecDepth 20000 in
set_option maxHeartbeats 8000000 in
theorem impl_NeededNames_any (w : World) (ao : Option Addr) (n c : Nat) (ls : List Ln) (h : Lns w w.heap.size ao n ls) (hs : okS ls) (hnc : n ≤ c) :
    Calls Try.prog 25 #[.slice ao n c] w (RetStB (namesF ls) w) := by
  have hn := h.le
  have hl := Lib.hid h.1
  cases hg : laGoodF ls
  · have HF : Hid (namesF ls = ([], false)) := by show _ = _; unfold namesF; rw [hg]; simp
    have HG := Lib.hid hg
    clear hg
    go_enter Try.func25, Try.ntmps25
    go_wp2_with fail
    refine (impl_IsProgram_any _ _ _ _ _ h hs hnc).mono ?_
    rintro e w1 ⟨rfl, hb1⟩
    rw [HG.out]
    go_wp2_with fail
    go_ret2
    exact RetStB.eq HF.out (OwnSt.nil _ _ _) hb1
  have HF : Hid (namesF ls = (namesL ls (ndL ls n), true)) := by show _ = _; unfold namesF; rw [if_pos hg, hl.out]
  have h30 := good_len2 hg
  rw [hl.out] at h30
  have HG := Lib.hid hg
  clear hg
  go_enter Try.func25, Try.ntmps25
  go_wp2_with fail
  refine (impl_IsProgram_any _ _ _ _ _ h hs hnc).mono ?_
  rintro e w1 ⟨rfl, hb1⟩
  rw [HG.out]
  obtain ⟨W3, hW3⟩ : ∃ W3, W3 = w1.alloc (.cells #[] 9) := ⟨_, rfl⟩
  have hal3 : Below w1.heap.size w1 W3 := by rw [hW3]; exact (Below.refl _ _).alloc (Nat.le_refl _) _
  have hb3 := hb1.trans (hal3.mono hb1.size)
  have HW3 := Lib.hid hW3
  clear hW3
  go_wp2_with (rw [← HW3.out])
  refine (needed_any _ _ _ _ _ ((h.below hb3 (Nat.le_refl _)).up hb3.size) HG.out).mono ?_
  rintro e w4 ⟨g, rfl, hob, hb4⟩
  obtain ⟨bs, hbs⟩ : ∃ bs, bs = ndL ls n := ⟨_, rfl⟩
  rw [← hbs] at hob HF
  clear hbs
  have hbw4 := hb3.trans (hb4.mono hb3.size)
  have h4 := h.below hbw4 (Nat.le_refl _)
  have HOB := Lib.hid hob
  clear hob
  go_wp2_with fail
  go_loopw [4, 14] (fun out i wr => ∃ (k : Nat) (co : Option Addr) (m cap : Nat), k ≤ n ∧ m ≤ k ∧ i = .int .i64 k ∧ out = .slice co m cap ∧ OwnSt w4.heap.size wr co m cap (namesL (ls.take k) (bs.take k)) ∧ Below w4.heap.size w4 wr) (fun _ i _ => n - (intOf i).toNat)
  case atStart => exact ⟨0, _, 0, 0, Nat.zero_le _, Nat.le_refl _, rfl, rfl, by simpa [namesL] using OwnSt.nil _ _ _, Below.refl _ _⟩
  case round =>
    obtain ⟨k, co, m, cap, hk, hmk, rfl, rfl, hout, hbel⟩ := hrel
    have hbelw := hbw4.trans (hbel.mono hbw4.size)
    by_cases hlt : k < n
    · obtain ⟨b, o, l, pa, pc, rfl, hb, hx, hps, g0, g1, g2, g3, g4, g5, g6⟩ := (h4.below hbel hbw4.size).at hlt
      obtain ⟨v, hv⟩ := getL_at (i := k) HOB.out.1 hlt
      have hgl : g < w4.heap.size := by obtain ⟨g', e1, _, e3⟩ := HOB.out.blk (by omega); simp at e1; omega
      have hcb := (hbel.cell (p := ⟨g, k, none⟩) hgl).trans (HOB.out.cell hv)
      have HS := Lib.hid (namesL_step hx hv (by rw [hl.out]; exact hk) (by rw [HOB.out.1]; exact hk))
      clear hx hv
      cases v
      · have HS2 : Hid (namesL (ls.take (k + 1)) (bs.take (k + 1)) = namesL (ls.take k) (bs.take k)) := by show _ = _; rw [HS.out]; simp
        go_wp2_with fail
        go_roundw
        case rel => exact ⟨k + 1, co, m, cap, by omega, by omega, by go_num, rfl, by rw [HS2.out]; exact hout, hbel⟩
        case measure => simp [intOf] <;> omega
      · have HS2 : Hid (namesL (ls.take (k + 1)) (bs.take (k + 1)) = namesL (ls.take k) (bs.take k) ++ [l.name]) := by show _ = _; rw [HS.out]; simp
        go_wp2_with (at_builtin; refine wpList_append_s rfl _ _ rfl w4.heap.size _ _ _ _ _ rfl (by first | rfl | (simp; rfl)) hout (by omega) hbel.size ?_; intro ao' cap' w6 hown6 hg6)
        have hbr6 := below_append hbel hout.2.2 hg6 hbel.size
        go_roundw
        case rel => exact ⟨k + 1, ao', m + 1, cap', by omega, by omega, by go_num, rfl, by rw [HS2.out]; exact hown6, hbr6⟩
        case measure => simp [intOf] <;> omega
    · obtain rfl : k = n := by omega
      rw [List.take_of_length_le (by rw [hl.out]; exact Nat.le_refl _), List.take_of_length_le (by rw [HOB.out.1]; exact Nat.le_refl _)] at hout
      go_wp2_with fail
      go_ret2
      exact RetStB.eq HF.out (hout.up hbw4.size) hbelw
set_option maxRecDepth 20000 in
set_option maxHeartbeats 8000000 in
theorem spec_NeededNames_any (w : World) (ao : Option Addr) (n c : Nat) (ls : List Ln) (h : Lns w w.heap.size ao n ls) (hs : okS ls) (hn20 : n ≤ 1048576) (hnc : n ≤ c) :
    Calls Try.prog 24 #[.slice ao n c] w (RetStB (namesF ls) w) := by
  have hn := h.le
  have hl := Lib.hid h.1
  cases hg : laGoodF ls
  · have HF : Hid (namesF ls = ([], false)) := by show _ = _; unfold namesF; rw [hg]; simp
    have HG := Lib.hid hg
    clear hg
    go_enter Try.func24, Try.ntmps24
    go_wp2_with fail
    refine (laGood_any _ _ _ _ _ h hs hnc).mono ?_
    rintro e w1 ⟨rfl, hb1⟩
    rw [HG.out]
    go_wp2_with fail
    go_ret2
    exact RetStB.eq HF.out (OwnSt.nil _ _ _) hb1
  have HF : Hid (namesF ls = (namesL ls (ndL ls n), true)) := by show _ = _; unfold namesF; rw [if_pos hg, hl.out]
  have h30 := good_len2 hg
  rw [hl.out] at h30
  have HNM := Lib.hid (named_nd hg n)
  have HBL := Lib.hid (ndL_length ls n)
  have HG := Lib.hid hg
  clear hg
  go_enter Try.func24, Try.ntmps24
  go_wp2_with fail
  refine (laGood_any _ _ _ _ _ h hs hnc).mono ?_
  rintro e w1 ⟨rfl, hb1⟩
  rw [HG.out]
  go_wp2_with fail
  refine (laNeeded_any _ _ _ _ _ ((h.below hb1 (Nat.le_refl _)).up hb1.size) HG.out).mono ?_
  rintro e w4 ⟨g, rfl, hob, hb4⟩
  obtain ⟨bs, hbs⟩ : ∃ bs, bs = ndL ls n := ⟨_, rfl⟩
  rw [← hbs] at hob HF HNM HBL
  clear hbs
  have hbw4 := hb1.trans (hb4.mono hb1.size)
  have h4 := h.below hbw4 (Nat.le_refl _)
  have HOB := Lib.hid hob
  clear hob
  go_wp2_with fail
  go_loopw [4, 13] (fun out i wr => ∃ (k : Nat) (co : Option Addr) (m cap : Nat), k ≤ n ∧ m ≤ k ∧ i = .int .i64 k ∧ out = .slice co m cap ∧ OwnSt w4.heap.size wr co m cap (namesL (ls.take k) (bs.take k)) ∧ Below w4.heap.size w4 wr) (fun _ i _ => n - (intOf i).toNat)
  case atStart => exact ⟨0, _, 0, 0, Nat.zero_le _, Nat.le_refl _, rfl, rfl, by simpa [namesL] using OwnSt.nil _ _ _, Below.refl _ _⟩
  case round =>
    obtain ⟨k, co, m, cap, hk, hmk, rfl, rfl, hout, hbel⟩ := hrel
    have hbelw := hbw4.trans (hbel.mono hbw4.size)
    by_cases hlt : k < n
    · obtain ⟨b, o, l, pa, pc, rfl, hb, hx, hps, g0, g1, g2, g3, g4, g5, g6⟩ := (h4.below hbel hbw4.size).at hlt
      obtain ⟨v, hv⟩ := getL_at (i := k) (HBL.out.trans hl.out) hlt
      have hmv : (mixL ls bs 0)[k]? = some (v || isOut l) := by
        rw [mixL_get (by rw [hl.out]; exact hlt), hx, List.getD_eq_getElem?_getD, hv]; simp
      have hgl : g < w4.heap.size := by obtain ⟨g', e1, _, e3⟩ := HOB.out.blk (by omega); simp at e1; omega
      have hcb := (hbel.cell (p := ⟨g, k, none⟩) hgl).trans (HOB.out.cell hmv)
      have HS := Lib.hid (namesL_step hx hv (by rw [hl.out]; exact hk) (by rw [HBL.out, hl.out]; exact hk))
      have HNV := Lib.hid (fun hvt : v = true => HNM.out k l (by rw [List.getD_eq_getElem?_getD, hv, hvt]; rfl) hx)
      clear hx hv hmv
      cases v
      · have HS2 : Hid (namesL (ls.take (k + 1)) (bs.take (k + 1)) = namesL (ls.take k) (bs.take k)) := by show _ = _; rw [HS.out]; simp
        cases k6 : (l.kind == 6)
        · have hcb2 : wr.cell? ⟨g, k, none⟩ = some (.bool false) := by rw [hcb, show isOut l = false from k6]; rfl
          clear hcb
          go_wp2_with fail
          go_roundw
          case rel => exact ⟨k + 1, co, m, cap, by omega, by omega, by go_num, rfl, by rw [HS2.out]; exact hout, hbel⟩
          case measure => simp [intOf] <;> omega
        · have hcb2 : wr.cell? ⟨g, k, none⟩ = some (.bool true) := by rw [hcb, show isOut l = true from k6]; rfl
          have b6 : (l.kind != 6) = false := by simp only [bne, k6]; rfl
          clear hcb
          go_wp2_with fail
          go_roundw
          case rel => exact ⟨k + 1, co, m, cap, by omega, by omega, by go_num, rfl, by rw [HS2.out]; exact hout, hbel⟩
          case measure => simp [intOf] <;> omega
      · have HS2 : Hid (namesL (ls.take (k + 1)) (bs.take (k + 1)) = namesL (ls.take k) (bs.take k) ++ [l.name]) := by show _ = _; rw [HS.out]; simp
        have k6 : (l.kind == 6) = false := HNV.out rfl
        have b6 : (l.kind != 6) = true := by simp only [bne, k6]; rfl
        have hcb2 : wr.cell? ⟨g, k, none⟩ = some (.bool true) := by rw [hcb]; rfl
        clear hcb
        go_wp2_with (at_builtin; refine wpList_append_s rfl _ _ rfl w4.heap.size _ _ _ _ _ rfl (by first | rfl | (simp; rfl)) hout (by omega) hbel.size ?_; intro ao' cap' w6 hown6 hg6)
        have hbr6 := below_append hbel hout.2.2 hg6 hbel.size
        go_roundw
        case rel => exact ⟨k + 1, ao', m + 1, cap', by omega, by omega, by go_num, rfl, by rw [HS2.out]; exact hown6, hbr6⟩
        case measure => simp [intOf] <;> omega
    · obtain rfl : k = n := by omega
      rw [List.take_of_length_le (by rw [hl.out]; exact Nat.le_refl _), List.take_of_length_le (by rw [HBL.out, hl.out]; exact Nat.le_refl _)] at hout
      go_wp2_with fail
      go_ret2
      exact RetStB.eq HF.out (hout.up hbw4.size) hbelw
theorem namesF_len {ls : List Ln} {ans : List ByteArray × Bool} {n : Nat} (h : ans = namesF ls) (hn : ans.1.length = n) : n ≤ 1048576 := by
  rw [← hn, h]
  unfold namesF
  split
  · next hg =>
    have h1 := good_len2 hg
    show (namesL ls (ndL ls ls.length)).length ≤ 1048576
    unfold namesL
    rw [List.length_map]
    refine Nat.le_trans (List.length_filter_le _ _) ?_
    rw [List.length_zip]
    omega
  · simp
end Go.Proofs.Ytphilajibbikkaa
