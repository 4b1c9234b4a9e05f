/-
  The language: the reference's values of all lines.
-/
import Derived.Test.YtdlddkgmjpmenaaVa5
namespace Go.Proofs.Ytdlddkgmjpmenaa
open Go.RowKit
set_option linter.unusedVariables false
set_option linter.unusedSimpArgs false

theorem ints_drop {w : World} {B b o n : Nat} {xs : List Int} {t : Nat} (h : Ints w B (some ⟨b, o, none⟩) n (xs.drop t)) : Ints w B (some ⟨b, o + 1, none⟩) (n - 1) (xs.drop (t + 1)) := by
  obtain ⟨h1, h2, h3⟩ := h
  refine ⟨by rw [← h1]; simp; omega, by omega, ?_⟩
  rcases h3 with h3 | ⟨b', o', e, hlt, hc⟩
  · left
    simp at h3 ⊢
    omega
  · simp only [Option.some.injEq, Addr.mk.injEq] at e
    obtain ⟨rfl, rfl, _⟩ := e
    refine .inr ⟨b, o + 1, rfl, hlt, fun j u hu => ?_⟩
    have := hc (j + 1) u (by rw [← hu, List.map_drop, List.map_drop, List.getElem?_drop, List.getElem?_drop]; congr 1; omega)
    rw [← this]
    congr 2
    omega
theorem ints_drop' {w : World} {B b o n c : Nat} {xs : List Int} {t : Nat} (h : Ints w B (some ⟨b, o, none⟩) n (xs.drop t)) (hc : n ≤ c) : Ints w B (if c = 1 then some ⟨b, o, none⟩ else some ⟨b, o + 1, none⟩) (n - 1) (xs.drop (t + 1)) := by
  by_cases h1 : c = 1
  · rw [if_pos h1]
    have h2 := ints_drop h
    refine ⟨h2.1, h2.2.1, .inl ?_⟩
    have h3 := h2.1
    have h4 : xs.drop (t + 1) = [] := List.eq_nil_of_length_eq_zero (by omega)
    rw [h4]; rfl
  · rw [if_neg h1]; exact ints_drop h
theorem ownI_row {w : World} {B m cap : Nat} {vo : Option Addr} {xs : List Int} (h : OwnI B w vo m cap xs) (h0 : 0 < m) : ∃ g, vo = some ⟨g, 0, none⟩ ∧ ∀ i y, xs[i]? = some y → w.cell? ⟨g, i, none⟩ = some (.int .i64 y) := by
  obtain ⟨h1, h2, h3⟩ := h
  rcases h3 with ⟨_, h3, _⟩ | ⟨g, rfl, h3⟩
  · omega
  · exact ⟨g, rfl, fun i y hy => rowI_at h3 h2 hy⟩
theorem ints_grown {w w' : World} {B n : Nat} {ao : Option Addr} {xs : List Int} {o : Option Nat} (h : Ints w B ao n xs) (hg : w.grownBy w' o) (hB : B ≤ w.heap.size) (ho : ∀ q, o = some q → B ≤ q) : Ints w' B ao n xs :=
  h.below ((Below.refl B w).grown hg hB ho) (Nat.le_refl _)
theorem last_take {f : ByteArray → Int} {ps : List ByteArray} {m : Nat} {p : ByteArray} (h : ps[m]? = some p) : ((ps.map f).take (m + 1)).getLastD 0 = f p := by
  rw [map_take_snoc h]; simp
end Go.Proofs.Ytdlddkgmjpmenaa
/-
  The language: ValuesIn and RunProgram, reference and program.
-/
namespace Go.Proofs.Ytdlddkgmjpmenaa
open Go.RowKit
set_option linter.unusedVariables false
set_option linter.unusedSimpArgs false

theorem ownI_capLe {B : Nat} {w : World} {ao : Option Addr} {n cap : Nat} {xs : List Int} (h : OwnI B w ao n cap xs) : n ≤ cap := by
  obtain ⟨_, _, h⟩ := h
  rcases h with ⟨_, rfl, rfl⟩ | ⟨g, rfl, hr⟩
  · exact Nat.le_refl _
  · rcases hr.2 with ⟨hv, h0⟩ | ⟨g2, cap2, cur, hv, _, _, hn', _⟩
    · omega
    · simp only [Value.slice.injEq] at hv
      obtain ⟨_, _, rfl⟩ := hv
      omega
def pickL (ls : List Ln) (vs : List Int) : Nat → List Int
  | 0 => []
  | k + 1 => match ls[k]? with
    | some x => if x.kind = 6 then pickL ls vs k ++ [atN vs k] else pickL ls vs k
    | none => pickL ls vs k
theorem pickL_step {ls : List Ln} {vs : List Int} {k : Nat} {x : Ln} {v : Int} (h : ls[k]? = some x) (hv : vs[k]? = some v) : pickL ls vs (k + 1) = if x.kind = 6 then pickL ls vs k ++ [v] else pickL ls vs k := by
  rw [pickL, h, atN_get hv]
def runPF (ls : List Ln) (a b : List Int) : List Int × Bool := if askedB ls a b = true then (pickL ls (valsL ls a b) ls.length, true) else ([], false)
theorem valsL_length {ls : List Ln} {a b : List Int} (hq : askedB ls a b = true) : (valsL ls a b).length = ls.length := (okV_run hq ls.length (Nat.le_refl _)).len

theorem impl_ValuesIn_any (w : World) (ao aa ba : Option Addr) (n c na ca nb cb : Nat) (ls : List Ln) (a b : List Int) (h : Lns w w.heap.size ao n ls) (hs : okS ls) (hnc : n ≤ c) (ha : Ints w w.heap.size aa na a) (hb : Ints w w.heap.size ba nb b) :
    Calls Try.prog 36 #[.slice ao n c, .slice aa na ca, .slice ba nb cb] w (RetIB (valF ls a b) w) := by
  go_enter Try.func36, Try.ntmps36
  go_wp2_with fail
  refine (areValues_any _ _ _ _ _ _ _ _ _ _ _ _ _ h hs hnc ha hb).mono ?_
  rintro e w1 ⟨rfl, hb1⟩
  cases hq : askedB ls a b
  · have HF : Hid (valF ls a b = ([], false)) := by show _ = _; unfold valF; rw [hq]; rfl
    go_wp2_with fail
    go_ret2
    exact RetIB.eq HF.out (OwnI.nil _ _ _) hb1
  · have HF : Hid (valF ls a b = (valsL ls a b, true)) := by show _ = _; unfold valF; rw [hq]; rfl
    have HQ := Lib.hid hq
    clear hq
    go_wp2_with fail
    refine (valuesIn_any _ _ _ _ _ _ _ _ _ _ _ _ _ ((h.below hb1 (Nat.le_refl _)).up hb1.size) hs hnc ((ha.below hb1 (Nat.le_refl _)).up hb1.size) ((hb.below hb1 (Nat.le_refl _)).up hb1.size) HQ.out).mono ?_
    rintro e w2 ⟨a2, n2, c2, rfl, ho, hb2⟩
    go_wp2_with fail
    go_ret2
    exact RetIB.eq HF.out (ho.up hb1.size) (hb1.trans (hb2.mono hb1.size))
set_option maxHeartbeats 4000000 in
theorem impl_RunProgram_any (w : World) (ao aa ba : Option Addr) (n c na ca nb cb : Nat) (ls : List Ln) (a b : List Int) (h : Lns w w.heap.size ao n ls) (hs : okS ls) (hnc : n ≤ c) (ha : Ints w w.heap.size aa na a) (hb : Ints w w.heap.size ba nb b) :
    Calls Try.prog 18 #[.slice ao n c, .slice aa na ca, .slice ba nb cb] w (RetIB (runPF ls a b) w) := by
  have hn := h.le
  have hl := Lib.hid h.1
  go_enter Try.func18, Try.ntmps18
  go_wp2_with fail
  refine (impl_ValuesIn_any _ _ _ _ _ _ _ _ _ _ _ _ _ h hs hnc ha hb).mono ?_
  rintro e w1 ⟨a1, n1, c1, rfl, ho1, hb1⟩
  cases hq : askedB ls a b
  · have HF : Hid (runPF ls a b = ([], false)) := by show _ = _; unfold runPF; rw [hq]; rfl
    have HV : Hid (valF ls a b = ([], false)) := by show _ = _; unfold valF; rw [hq]; rfl
    rw [HV.out] at ho1 ⊢
    clear hq
    go_wp2_with fail
    go_ret2
    exact RetIB.eq HF.out (OwnI.nil _ _ _) hb1
  · have HF : Hid (runPF ls a b = (pickL ls (valsL ls a b) ls.length, true)) := by show _ = _; unfold runPF; rw [hq]; rfl
    have HV : Hid (valF ls a b = (valsL ls a b, true)) := by show _ = _; unfold valF; rw [hq]; rfl
    rw [HV.out] at ho1 ⊢
    have HVL := Lib.hid (valsL_length hq)
    have h30 := good_len3 (asked_good hq).1
    rw [hl.out] at h30
    clear hq
    simp only [] at ho1
    obtain rfl : n1 = n := by have := ho1.1; rw [HVL.out, hl.out] at this; exact this.symm
    have HI1 := Lib.hid ho1.ints
    have h1 := h.below hb1 (Nat.le_refl _)
    clear ho1
    obtain ⟨W2, hW2⟩ : ∃ W2, W2 = w1.alloc (.cells #[] 3) := ⟨_, rfl⟩
    have hb2 : Below w1.heap.size w1 W2 := by rw [hW2]; exact (Below.refl _ _).alloc (Nat.le_refl _) _
    have HOW : Hid (OwnI w1.heap.size W2 (some ⟨w1.heap.size, 0, none⟩) 0 0 []) := by
      show OwnI _ _ _ _ _ _
      rw [hW2]
      exact ⟨rfl, by omega, .inr ⟨_, rfl, empty_row (heap_alloc_new _ _) (Nat.le_refl _)⟩⟩
    have HW2 := Lib.hid hW2
    clear hW2
    go_wp2_with (rw [← HW2.out])
    go_loopw [10, 25] (fun out i wr => ∃ (k m : Nat) (co : Option Addr) (cap : Nat), k ≤ n1 ∧ m ≤ k ∧ i = .int .i64 k ∧ out = .slice co m cap ∧ OwnI w1.heap.size wr co m cap (pickL ls (valsL ls a b) k) ∧ Below w1.heap.size w1 wr) (fun _ i _ => n1 - (intOf i).toNat)
    case atStart => exact ⟨0, 0, _, _, Nat.zero_le _, Nat.le_refl _, rfl, rfl, HOW.out, hb2⟩
    case round =>
      obtain ⟨k, m, co, cap, hk, hmk, rfl, rfl, hout, hbel⟩ := hrel
      obtain ⟨wr, hwr⟩ := wname hbel
      subst hwr
      have hz1 := hbel.size
      by_cases hlt : k < n1
      · obtain ⟨b0, oo, l, pa, pc, rfl, hbb, hx, hps, g0, g1, g2, g3, g4, g5, g6⟩ := (h1.below hbel hb1.size).at hlt
        obtain ⟨W3, hW3⟩ : ∃ W3, W3 = wr.alloc (lineObj l pa pc) := ⟨_, rfl⟩
        have hal3 : Below wr.heap.size wr W3 := by rw [hW3]; exact (Below.refl _ _).alloc (Nat.le_refl _) _
        have hbx3 : BoxL W3 wr.heap.size l pa pc := by rw [hW3]; exact boxL_new _ _ _ _
        have HW3 := Lib.hid hW3
        clear hW3
        have hz3 := hal3.size
        have hbel3 := hbel.trans (hal3.mono hz1)
        have hout3 := hout.below hal3 (Nat.le_refl _)
        obtain ⟨b3, o3, z, rfl, hbb3, hz, q3⟩ := (HI1.out.below hbel3 (Nat.le_refl _)).at hlt
        have HST := Lib.hid (pickL_step hx hz)
        clear hx hz hal3
        obtain ⟨e0, e1, e2, e3, e4, e5, e6⟩ := hbx3
        unfold lineObj at HW3
        by_cases h6 : l.kind = 6
        · have h6t : (l.kind == 6) = true := by simp [h6]
          rw [if_pos h6] at HST
          clear h6
          go_wp2_with (first | rw [← HW3.out] | (at_builtin; refine wpList_append_i rfl _ _ rfl w1.heap.size _ _ _ _ _ rfl (by first | rfl | (simp; rfl)) hout3 (by omega) (by omega) ?_; intro ao' cap' w9 hown9 hg9))
          have hbe9 := hbel3.grown hg9 (by omega) (fun q hq => by have := hout3.rowLt q hq; omega)
          go_roundw
          case rel => exact ⟨k + 1, m + 1, ao', cap', by omega, by omega, by go_num, rfl, by rw [HST.out]; exact hown9, hbe9⟩
          case measure => simp [intOf] <;> omega
        · have h6' : (l.kind == 6) = false := by simp [h6]
          go_wp2_with (rw [← HW3.out])
          go_roundw
          case rel => exact ⟨k + 1, m, co, cap, by omega, by omega, by go_num, rfl, by rw [HST.out, if_neg h6]; exact hout3, hbel3⟩
          case measure => simp [intOf] <;> omega
      · obtain rfl : k = n1 := by omega
        have hbelw := hb1.trans (hbel.mono hb1.size)
        go_wp2_with fail
        go_ret2
        exact RetIB.eq HF.out (by rw [hl.out]; exact hout.up hb1.size) hbelw
end Go.Proofs.Ytdlddkgmjpmenaa
