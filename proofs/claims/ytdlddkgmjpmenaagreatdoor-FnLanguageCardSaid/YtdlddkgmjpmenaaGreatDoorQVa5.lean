/-
  The language: the program's values of all lines.
-/
import Derived.Test.YtdlddkgmjpmenaaGreatDoorHVa
import Derived.Deep.RegionHeld3
namespace Go.Proofs.YtdlddkgmjpmenaaGreatDoor
open Go.RowKit
set_option linter.unusedVariables false
set_option linter.unusedSimpArgs false

theorem good_len3 {ls : List Ln} (hg : laGoodF ls = true) : ls.length ≤ 30 := by
  unfold laGoodF at hg
  rw [Bool.and_eq_true] at hg
  simpa using hg.1
/-- 'append(out, x)' of one int as one step of a region that draws, wherever x lies. -/
theorem step_append_g {ops : Array Oper} {o : Oper} {a : Act} {w : World} {K : Act → World → Prop} {Q : Exit → Act → World → Prop} {E : Prop} (hgd : o.guard = none) (s x : Operand)
    (ho : o.op = .call { callee := .builtin .append, args := #[s, x], argTypes := #[29, 29] })
    (B : Nat) (ao : Option Addr) (n cap : Nat) (xs : List Int) (u : Int) (C : Nat) (xo : Option Addr) (c : Nat) (hs : a.eval s = .slice ao n cap) (hx : a.eval x = .slice xo 1 c) (hc : CellsAt w C xo [.int .i64 u])
    (hown : OwnI B w ao n cap xs) (hn : n < 999999990) (hB : B ≤ w.heap.size)
    (hK : ∀ ao' cap' w', OwnI B w' ao' (n + 1) cap' (xs ++ [u]) → w.grownBy w' (rowOf ao cap) → K (a.put o.dst (.slice ao' (n + 1) cap')) w') :
    if Region.wanted o (yielded ops a.tmps) = true then Oper.wp Tryz.prog o a w K Q else E := by
  rw [if_pos (by simp [Region.wanted, hgd])]
  obtain ⟨i, hi1, hi2, hi3, hi4⟩ := info_parts int_info
  obtain ⟨ao', cap', w', hr, h2, h3⟩ := run_append_any (P := Tryz.prog) w 29 o.type 3 i (.int .i64 0) 1 8 Tryz.underlying29 hi1 hi2 hi3 hi4 rfl (by decide) B ao n cap (xs.map (Value.int .i64)) hown.2.2 C xo 1 c [.int .i64 u] rfl hc (by simp [Value.oneCell']) (by unfold maxLen; omega) (by omega) hB
  unfold Oper.wp execOp
  simp only [ho, resolve, invoke, builtin, Sem.run_bind, Sem.run_pure, Result.andThen_ok, List.map_toArray, List.map_cons, List.map_nil, hs, hx, hr]
  exact hK _ _ _ ⟨by simp [hown.1], by omega, by simpa using h2⟩ h3
theorem cells_one {w : World} {b : Nat} {v : Value} (hb : b < w.heap.size) (h : w.cell? ⟨b, 0, none⟩ = some v) : CellsAt w w.heap.size (some ⟨b, 0, none⟩) [v] :=
  .inr ⟨b, 0, rfl, hb, fun j u hu => by
    cases j with
    | zero => simp at hu; rw [← hu]; exact h
    | succ j => simp at hu⟩
theorem alloc2_cells (w : World) (y z : Int) : ∃ WA, WA = ((w.alloc (.cells #[.int .i64 y] 3)).alloc (.cells #[.int .i64 z] 3)).drew ∧ Below w.heap.size w WA ∧ WA.heap.size = w.heap.size + 2 ∧ WA.cell? ⟨w.heap.size, 0, none⟩ = some (.int .i64 y) ∧ WA.cell? ⟨w.heap.size + 1, 0, none⟩ = some (.int .i64 z) := by
  refine ⟨_, rfl, (((Below.refl _ _).alloc (Nat.le_refl _) _).alloc (by simp) _).drew, by simp [World.drew], ?_, ?_⟩
  · show ((w.alloc (.cells #[.int .i64 y] 3)).alloc (.cells #[.int .i64 z] 3)).cell? ⟨w.heap.size, 0, none⟩ = _
    rw [((Below.refl (w.alloc (.cells #[.int .i64 y] 3)).heap.size (w.alloc (.cells #[.int .i64 y] 3))).alloc (Nat.le_refl _) (.cells #[.int .i64 z] 3)).cell (p := ⟨w.heap.size, 0, none⟩) (by simp), cell_of_row _ w.heap.size 0 #[.int .i64 y] 3 (0, 0) (heap_alloc_new w _)]; rfl
  · show ((w.alloc (.cells #[.int .i64 y] 3)).alloc (.cells #[.int .i64 z] 3)).cell? ⟨w.heap.size + 1, 0, none⟩ = _
    rw [show w.heap.size + 1 = (w.alloc (.cells #[.int .i64 y] 3)).heap.size from by simp, cell_of_row _ (w.alloc (.cells #[.int .i64 y] 3)).heap.size 0 #[.int .i64 z] 3 (0, 0) (heap_alloc_new _ _)]; rfl
theorem alloc1_cells (w : World) (y : Int) : ∃ WA, WA = (w.alloc (.cells #[.int .i64 y] 3)).drew ∧ Below w.heap.size w WA ∧ WA.heap.size = w.heap.size + 1 ∧ WA.cell? ⟨w.heap.size, 0, none⟩ = some (.int .i64 y) := by
  refine ⟨_, rfl, ((Below.refl _ _).alloc (Nat.le_refl _) _).drew, by simp [World.drew], ?_⟩
  show (w.alloc (.cells #[.int .i64 y] 3)).cell? ⟨w.heap.size, 0, none⟩ = _
  rw [cell_of_row _ w.heap.size 0 #[.int .i64 y] 3 (0, 0) (heap_alloc_new w _)]; rfl
theorem ob_ne {g g' n n' c c' : Nat} (h : g ≠ g') : (Value.slice (some ⟨g, 0, none⟩) n c).ownBlock ≠ (Value.slice (some ⟨g', 0, none⟩) n' c').ownBlock := by
  intro e
  unfold Value.ownBlock at e
  simp only [Option.some.injEq] at e
  exact h e
theorem ob_eq {g n c q : Nat} (h : (Value.slice (some ⟨g, 0, none⟩) n c).ownBlock = some q) : g = q := by
  unfold Value.ownBlock at h
  simpa using h
theorem empty_row {w : World} {g B : Nat} (h : w.heap[g]? = some (.cells #[] 3 (0, 0))) (hB : B ≤ g) : w.ownsRow B 3 1 (.slice (some ⟨g, 0, none⟩) 0 0) 0 [] :=
  ⟨rfl, .inr ⟨g, 0, #[], rfl, hB, h, Nat.le_refl _, Nat.zero_le _, rfl, rfl⟩⟩
theorem news_one {w : World} {b : Nat} {v : Value} (h : w.cell? ⟨b, 0, none⟩ = some v) : ∀ j u, [v][j]? = some u → w.cell? ((⟨b, 0, none⟩ : Addr).add j) = some u := by
  intro j u hu
  cases j with
  | zero => simp at hu; rw [← hu]; simpa [Addr.add] using h
  | succ j => simp at hu
theorem row_ints {w : World} {B g n cap : Nat} {xs : List Int} (h : w.ownsRow B 3 1 (.slice (some ⟨g, 0, none⟩) n cap) n (xs.map (Value.int .i64))) (hn : n ≤ 1000000000) : OwnI B w (some ⟨g, 0, none⟩) n cap xs :=
  ⟨by have := h.1; simpa using this, hn, .inr ⟨g, rfl, h⟩⟩
theorem rowI_at {w : World} {B g n cap : Nat} {xs : List Int} (h : w.ownsRow B 3 1 (.slice (some ⟨g, 0, none⟩) n cap) n (xs.map (Value.int .i64))) (hn : n ≤ 1000000000) {i : Nat} {y : Int} (hy : xs[i]? = some y) : w.cell? ⟨g, i, none⟩ = some (.int .i64 y) := by
  have h1 := (row_ints h hn).ints
  have hi : i < n := by rw [← h1.1]; exact (List.getElem?_eq_some_iff.1 hy).1
  obtain ⟨b, o, v, e, _, hv, hc⟩ := h1.at hi
  rw [hy] at hv
  simp only [Option.some.injEq, Addr.mk.injEq] at e hv
  obtain ⟨rfl, rfl, _⟩ := e
  subst hv
  simpa using hc
theorem set_of {B : Nat} {w w' : World} (h : Below B w w') (p : Addr) (v : Value) : ∃ W, W = w'.setCell p v := ⟨_, rfl⟩
theorem wrap_not {g u : Nat} (hg : g ≤ 10) (hu : u < 2 ^ g) : wrap64 (wrap64 (wrap64 (2 ^ g) - 1) - (u : Int)) = 2 ^ g - 1 - (u : Int) := by
  have h1 := pow_le10 g hg
  have h2 : (u : Int) < 2 ^ g := by rw [pow_cast]; omega
  rw [wrap_pow10 g hg]
  have h0 : (0 : Int) ≤ (u : Int) := Int.natCast_nonneg _
  generalize (2 : Int) ^ g = e at h1 h2 ⊢
  generalize (u : Int) = z at h2 h0 ⊢
  unfold wrap64
  omega
theorem wname {B : Nat} {w w' : World} (h : Below B w w') : ∃ W, W = w' := ⟨_, rfl⟩
theorem map_take_snoc {f : ByteArray → Int} {ps : List ByteArray} {m : Nat} {p : ByteArray} (h : ps[m]? = some p) : (ps.map f).take (m + 1) = (ps.map f).take m ++ [f p] := by
  rw [List.take_add_one, List.getElem?_map, h]; rfl
set_option maxRecDepth 100000 in
set_option maxHeartbeats 8000000 in
theorem valuesIn_any (w : World) (ao aa ba : Option Addr) (n c na ca nb cb : Nat) (ls : List Ln) (a b : List Int) (h : Lns w w.heap.size ao n ls) (hs : okS ls) (hnc : n ≤ c) (ha : Ints w w.heap.size aa na a) (hb : Ints w w.heap.size ba nb b) (hq : askedB ls a b = true) :
    Calls Tryz.prog 38 #[.slice ao n c, .slice aa na ca, .slice ba nb cb] w (RetI (valsL ls a b) w) := by
  have hn := h.le
  have hl := Lib.hid h.1
  have HQ := Lib.hid hq
  have HG := Lib.hid (asked_good hq).1
  have h30 := good_len3 HG.out
  rw [hl.out] at h30
  have HFA := Lib.hid (fun p => find_agree ((widths_good ls).2 HG.out).2.2.2 p)
  clear hq
  go_enter Tryz.func38, Tryz.ntmps38
  go_wp2_with fail
  refine (widths_any _ _ _ _ _ h hs hnc).mono ?_
  rintro e w1 ⟨l1, n1, c1, rfl, ho1, hb1⟩
  rw [((widths_good ls).2 HG.out).1] at ho1
  obtain rfl : n1 = n := by have := ho1.1; rw [laWidths_length, hl.out] at this; exact this.symm
  have HI1 := Lib.hid ho1.ints
  have h1 := h.below hb1 (Nat.le_refl _)
  have HA1 := Lib.hid (ha.below hb1 (Nat.le_refl _))
  have HB1 := Lib.hid (hb.below hb1 (Nat.le_refl _))
  obtain ⟨ok, hok⟩ : ∃ ok, ok = (widthsF ls).2 := ⟨_, rfl⟩
  rw [← hok]
  clear ho1 hok
  obtain ⟨Wa, hWa⟩ : ∃ Wa, Wa = w1.alloc (.cells #[] 3) := ⟨_, rfl⟩
  have hba : Below w1.heap.size w1 Wa := by rw [hWa]; exact (Below.refl _ _).alloc (Nat.le_refl _) _
  have hsza : w1.heap.size < Wa.heap.size := by rw [hWa]; simp
  have HWa := Lib.hid hWa
  clear hWa
  obtain ⟨W2, hW2⟩ : ∃ W2, W2 = Wa.alloc (.cells #[.int .i64 0, .int .i64 0] 83) := ⟨_, rfl⟩
  have hb2 : Below w1.heap.size w1 W2 := by rw [hW2]; exact hba.alloc (by omega) _
  have hbits2 : Bits2 W2 Wa.heap.size 0 0 := by rw [hW2]; exact Bits2.new _ _
  have hsz2 : Wa.heap.size < W2.heap.size := by rw [hW2]; simp
  have HW2 := Lib.hid hW2
  clear hW2
  go_wp2_with (rw [← HWa.out])
  rw [← HW2.out]
  go_loopw [9, 29] (fun out i wr => ∃ (k : Nat) (co : Option Addr) (cap : Nat), k ≤ n1 ∧ i = .int .i64 k ∧ out = .slice co k cap ∧ OwnI W2.heap.size wr co k cap (runV ls a b k).1 ∧ Bits2 wr Wa.heap.size ((runV ls a b k).2.1 : Nat) ((runV ls a b k).2.2 : Nat) ∧ Below w1.heap.size w1 wr ∧ W2.heap.size ≤ wr.heap.size) (fun _ i _ => n1 - (intOf i).toNat)
  case atStart => exact ⟨0, _, _, Nat.zero_le _, rfl, rfl, OwnI.nil _ _ _, hbits2, hb2, Nat.le_refl _⟩
  case round =>
    obtain ⟨k, co, cap, hk, rfl, rfl, hout, hbits, hbel, hszr⟩ := hrel
    have hbelw := hb1.trans (hbel.mono hb1.size)
    by_cases hlt : k < n1
    · obtain ⟨b0, oo, l, pa, pc, rfl, hbb, hx, hps, g0, g1, g2, g3, g4, g5, g6⟩ := (h1.below hbel hb1.size).at hlt
      have HOK := Lib.hid (okV_run HQ.out k (by rw [hl.out]; exact hk))
      have HSTEP := Lib.hid (runV_step (a := a) (b := b) hx)
      have HFIT := Lib.hid (line_fits HQ.out hx HOK.out)
      have HLN := Lib.hid (good_line HG.out hx)
      have HGF := Lib.hid (fun p hp => good_find (p := p) HG.out hx hp)
      have HPF := Lib.hid (fun p hp => part_fits (p := p) HG.out hx HOK.out hp)
      have HX := Lib.hid hx
      obtain ⟨s, hsv⟩ : ∃ s, s = runV ls a b k := ⟨_, rfl⟩
      rw [← hsv] at hout hbits HOK HSTEP HFIT HPF
      clear hx hsv
      obtain ⟨vs, t0, t1⟩ := s
      have ht0 : t0 ≤ k := by have h0 := HOK.out.n0; have h1 := inputs_len (ls.take k) 0; simp only [List.length_take] at h1; simp only [] at h0; omega
      have ht1 : t1 ≤ k := by have h0 := HOK.out.n1; have h1 := inputs_len (ls.take k) 1; simp only [List.length_take] at h1; simp only [] at h0; omega
      simp only [] at hout hbits
      obtain ⟨W3, hW3⟩ : ∃ W3, W3 = wr.alloc (lineObj l pa pc) := ⟨_, rfl⟩
      have hal3 : Below wr.heap.size wr W3 := by rw [hW3]; exact (Below.refl _ _).alloc (Nat.le_refl _) _
      have hbx3 : BoxL W3 wr.heap.size l pa pc := by rw [hW3]; exact boxL_new _ _ _ _
      have hsz3 : wr.heap.size < W3.heap.size := by rw [hW3]; simp
      have HW3 := Lib.hid hW3
      clear hW3
      obtain ⟨W4, hW4⟩ : ∃ W4, W4 = W3.alloc (.cells #[] 3) := ⟨_, rfl⟩
      have hal4 : Below W3.heap.size W3 W4 := by rw [hW4]; exact (Below.refl _ _).alloc (Nat.le_refl _) _
      have hr4 : W4.heap[W3.heap.size]? = some (.cells #[] 3 (0, 0)) := by rw [hW4]; exact heap_alloc_new _ _
      have hz4 : W4.heap.size = W3.heap.size + 1 := by rw [hW4]; simp
      have HW4 := Lib.hid hW4
      clear hW4
      obtain ⟨W5, hW5⟩ : ∃ W5, W5 = W4.alloc (.cells #[] 3) := ⟨_, rfl⟩
      have hal5 : Below W4.heap.size W4 W5 := by rw [hW5]; exact (Below.refl _ _).alloc (Nat.le_refl _) _
      have hr5 : W5.heap[W4.heap.size]? = some (.cells #[] 3 (0, 0)) := by rw [hW5]; exact heap_alloc_new _ _
      have hz5 : W5.heap.size = W4.heap.size + 1 := by rw [hW5]; simp
      have hr45 := (hal5.block W3.heap.size (by omega)).trans hr4
      have HW5 := Lib.hid hW5
      clear hW5
      have hal35 : Below W3.heap.size W3 W5 := hal4.trans (hal5.mono hal4.size)
      have hal05 : Below wr.heap.size wr W5 := hal3.trans (hal35.mono hal3.size)
      have hbx5 := hbx3.below hal35 hsz3
      have hsz5 : wr.heap.size < W5.heap.size := Nat.lt_of_lt_of_le hsz3 hal35.size
      have hbel5 := hbel.trans (hal05.mono hbel.size)
      have hout5 := hout.below hal05 (Nat.le_refl _)
      have hbits5 := hbits.below hal05 (by omega)
      have hw3 : w.heap.size ≤ W3.heap.size := by have := hb1.size; have := hbel.size; omega
      have hps5 := hps.below hal05 (show w.heap.size ≤ wr.heap.size by have := hb1.size; have := hbel.size; omega)
      have HBX5 := Lib.hid hbx5
      have HRP := Lib.hid (empty_row hr45 (Nat.le_refl _))
      have hr5' := hr5
      rw [hz4] at hr5'
      have HRQ := Lib.hid (empty_row (B := W3.heap.size) hr5' (by omega))
      clear hr5'
      clear hr4 hr5 hr45
      clear hbx3 hal3 hal4 hal5 hal35 hbx5
      obtain ⟨e0, e1, e2, e3, e4, e5, e6⟩ := HBX5.out
      have hpl : l.parts.length ≤ 1048576 := (okS_at hs HX.out).2.2
      unfold lineObj at HW3
      go_wp2_with (first | rw [← HW3.out] | rw [← HW4.out] | rw [← HW5.out])
      clear e0 e1 e2 e3 e4 e5 e6 g0 g1 g2 g3 g4 g5 g6
      obtain ⟨i0, hi0, hi1, hi2, hi3⟩ := info_parts int_info
      go_loopw [13, 14, 38] (fun parts wide j wq => ∃ (m gp gq pcap qcap : Nat), m ≤ l.parts.length ∧ j = .int .i64 m ∧ parts = .slice (some ⟨gp, 0, none⟩) m pcap ∧ wide = .slice (some ⟨gq, 0, none⟩) m qcap ∧ wq.ownsRow W3.heap.size 3 1 (.slice (some ⟨gp, 0, none⟩) m pcap) m (((pvL ls vs l).take m).map (Value.int .i64)) ∧ wq.ownsRow W3.heap.size 3 1 (.slice (some ⟨gq, 0, none⟩) m qcap) m (((wideL ls (laWidths ls) l).take m).map (Value.int .i64)) ∧ gp ≠ gq ∧ gp < wq.heap.size ∧ gq < wq.heap.size ∧ Below W3.heap.size W5 wq) (fun _ _ j _ => l.parts.length - (intOf j).toNat)
      case atStart => exact ⟨0, _, _, 0, 0, Nat.zero_le _, rfl, rfl, rfl, HRP.out, HRQ.out, by omega, by omega, by omega, Below.refl _ _⟩
      case round =>
        obtain ⟨m, gp, gq, pcap, qcap, hm, rfl, rfl, rfl, hpo, hqo, hne, hlp, hlq, hbq⟩ := hrel
        have hbq1 : Below w1.heap.size w1 _ := hbel5.trans (hbq.mono (by have := hbel.size; omega))
        by_cases hltm : m < l.parts.length
        · obtain ⟨b9, o9, p, rfl, hbb9, hxp, q9⟩ := (hps5.below hbq hw3).at hltm
          have hmem := List.mem_of_getElem? hxp
          have HPV := Lib.hid (map_take_snoc (f := fun p => atN vs (findF ls p)) hxp)
          have HPW := Lib.hid (map_take_snoc (f := fun p => atN (laWidths ls) (findF ls p)) hxp)
          obtain ⟨_, hf0, hf1⟩ := HGF.out p hmem
          have hL := h1.below hbq1 (Nat.le_trans hb1.size (Nat.le_refl _))
          clear hxp hmem
          go_wp2_with fail
          refine (lineOf_any _ _ _ _ _ _ p hL (Nat.le_trans hb1.size hbq1.size)).mono ?_
          rintro e w6 ⟨rfl, hb6⟩
          rw [← HFA.out p]
          have hz6 := hb6.size
          have hbq6 := hbq.trans (hb6.mono (by have := hbq.size; omega))
          have hpo6 := ownsRow_below hpo hb6 (Nat.le_refl _)
          have hqo6 := ownsRow_below hqo hb6 (Nat.le_refl _)
          obtain ⟨f, hf⟩ := Int.eq_ofNat_of_zero_le hf0
          rw [hf] at hf0 hf1 HPV HPW ⊢
          have hfk : f < k := by omega
          have hfn : f < n1 := by omega
          obtain ⟨b2, o2, y, rfl, hbb2, hy, q2⟩ := ((hout.ints).below hal05 (Nat.le_refl _)).at hfk
          obtain ⟨b3, o3, z, rfl, hbb3, hz, q3⟩ := (HI1.out.below hbel5 (Nat.le_refl _)).at hfn
          rw [atN_get hy] at HPV
          rw [atN_get hz] at HPW
          clear hf hf0 hf1 hy hz
          have hS : ∀ W, Below W3.heap.size W5 W → W.cell? ⟨b2, o2 + f, none⟩ = some (.int .i64 y) ∧ W.cell? ⟨b3, o3 + f, none⟩ = some (.int .i64 z) ∧ Below W3.heap.size W5 W :=
            fun W hW => ⟨(hW.cell (p := ⟨b2, o2 + f, none⟩) (by show b2 < W3.heap.size; omega)).trans q2, (hW.cell (p := ⟨b3, o3 + f, none⟩) (by show b3 < W3.heap.size; have := hbel.size; omega)).trans q3, hW⟩
          have HS := Lib.hid hS
          have hm9 : m < 999999990 := by omega
          have hs6 : W3.heap.size ≤ w6.heap.size := by have := hbq6.size; omega
          obtain ⟨WA1, hWA1, hal1, hsz1', hcy1⟩ := alloc1_cells w6 y
          obtain ⟨WA2, hWA2, hal2, hsz2', hcy2, hcz2⟩ := alloc2_cells w6 y z
          obtain ⟨WA3, hWA3, hal3, hsz3', hcz3, hcy3⟩ := alloc2_cells w6 z y
          have hbA1 : Below W3.heap.size W5 WA1 := hbq6.trans (hal1.mono hs6)
          have hbA2 : Below W3.heap.size W5 WA2 := hbq6.trans (hal2.mono hs6)
          have hbA3 : Below W3.heap.size W5 WA3 := hbq6.trans (hal3.mono hs6)
          have hbA1' : Below W3.heap.size W5 (w6.alloc (.cells #[.int .i64 y] 3)).drew := by rw [← hWA1]; exact hbA1
          have hbA2' : Below W3.heap.size W5 ((w6.alloc (.cells #[.int .i64 y] 3)).alloc (.cells #[.int .i64 z] 3)).drew := by rw [← hWA2]; exact hbA2
          have hbA3' : Below W3.heap.size W5 ((w6.alloc (.cells #[.int .i64 z] 3)).alloc (.cells #[.int .i64 y] 3)).drew := by rw [← hWA3]; exact hbA3
          have hbA4' : Below W3.heap.size W5 (w6.alloc (.cells #[.int .i64 z] 3)).drew := (hbq6.alloc hs6 _).drew
          have hS1 : W3.heap.size ≤ WA1.heap.size := by omega
          have hS2 : W3.heap.size ≤ WA2.heap.size := by omega
          have hS3 : W3.heap.size ≤ WA3.heap.size := by omega
          have hpo1 := ownsRow_below hpo6 hal1 (Nat.le_refl _)
          have hqo1 := ownsRow_below hqo6 hal1 (Nat.le_refl _)
          have hpo2 := ownsRow_below hpo6 hal2 (Nat.le_refl _)
          have hqo2 := ownsRow_below hqo6 hal2 (Nat.le_refl _)
          have hpo3 := ownsRow_below hpo6 hal3 (Nat.le_refl _)
          have hqo3 := ownsRow_below hqo6 hal3 (Nat.le_refl _)
          have HGP := Lib.hid ((World.ownsRow.lt hpo gp rfl).1)
          have HGQ := Lib.hid ((World.ownsRow.lt hqo gq rfl).1)
          have HCY1 := Lib.hid (news_one hcy1)
          have HCY2 := Lib.hid (news_one hcy2)
          have HCY3 := Lib.hid (news_one hcy3)
          have HWA1 := Lib.hid hWA1
          have HWA2 := Lib.hid hWA2
          have HWA3 := Lib.hid hWA3
          clear hWA1 hWA2 hWA3 hcy1 hcy2 hcy3
          obtain ⟨q2, q3, _⟩ := hS w6 hbq6
          clear hS
          go_wp2_with fail
          go_region_held3 (fun w' => w'.cell? ⟨b2, o2 + f, none⟩ = some (.int .i64 y) ∧ w'.cell? ⟨b3, o3 + f, none⟩ = some (.int .i64 z) ∧ Below W3.heap.size W5 w') (first | (refine HS.out _ ?_; first | exact hb8 | exact hb7 | exact hb7.alloc (by have := hb7.size; omega) _ | exact bdrewN hbq6 1 | exact hbA1' | exact hbA2' | exact hbA3' | exact hbA4') | assumption)
            (first | (rw [← HWA1.out]; refine step_append_lies (w := WA1) rfl _ _ 29 rfl W3.heap.size 3 i0 (.int .i64 0) 1 8 Tryz.underlying29 hi0 hi1 hi2 hi3 rfl (by decide) (.slice (some ⟨gp, 0, none⟩) m pcap) m _ rfl hpo1 ⟨w6.heap.size, 0, none⟩ 1 1 [.int .i64 y] rfl rfl HCY1.out (by simp [Value.oneCell']) (by decide) (by unfold maxLen; omega) (by omega) hS1 _ rfl ?_; intro gp' pcap' w7 hown7 hg7 hat7 hlt7; have hb7 : Below W3.heap.size W5 w7 := hbA1.grown hg7 hS1 (fun q hq => by have h9 := ob_eq hq; have := HGP.out; omega); have hqo7 := hqo1.kept hg7 (.inr (ob_ne (Ne.symm hne))); have hne7 : gp' ≠ gq := (by rcases hat7 with e | e <;> first | (have h9 := ob_eq e; omega) | omega); have hz7 := hg7.size) | (rw [← HWA2.out]; refine step_append_lies (w := WA2) rfl _ _ 29 rfl W3.heap.size 3 i0 (.int .i64 0) 1 8 Tryz.underlying29 hi0 hi1 hi2 hi3 rfl (by decide) (.slice (some ⟨gp, 0, none⟩) m pcap) m _ rfl hpo2 ⟨w6.heap.size, 0, none⟩ 1 1 [.int .i64 y] rfl rfl HCY2.out (by simp [Value.oneCell']) (by decide) (by unfold maxLen; omega) (by omega) hS2 _ rfl ?_; intro gp' pcap' w7 hown7 hg7 hat7 hlt7; have hb7 : Below W3.heap.size W5 w7 := hbA2.grown hg7 hS2 (fun q hq => by have h9 := ob_eq hq; have := HGP.out; omega); have hqo7 := hqo2.kept hg7 (.inr (ob_ne (Ne.symm hne))); have hne7 : gp' ≠ gq := (by rcases hat7 with e | e <;> first | (have h9 := ob_eq e; omega) | omega); have hz7 := hg7.size; have HZ7 := Lib.hid (news_one ((hg7.cell_far ⟨w6.heap.size + 1, 0, none⟩ (by show w6.heap.size + 1 < WA2.heap.size; omega) (fun e => by have h9 : gp = w6.heap.size + 1 := ob_eq e.symm; omega)).trans hcz2))) | (rw [← HWA3.out]; refine step_append_lies (w := WA3) rfl _ _ 29 rfl W3.heap.size 3 i0 (.int .i64 0) 1 8 Tryz.underlying29 hi0 hi1 hi2 hi3 rfl (by decide) (.slice (some ⟨gp, 0, none⟩) m pcap) m _ rfl hpo3 ⟨w6.heap.size + 1, 0, none⟩ 1 1 [.int .i64 y] rfl rfl HCY3.out (by simp [Value.oneCell']) (by decide) (by unfold maxLen; omega) (by omega) hS3 _ rfl ?_; intro gp' pcap' w7 hown7 hg7 hat7 hlt7; have hb7 : Below W3.heap.size W5 w7 := hbA3.grown hg7 hS3 (fun q hq => by have h9 := ob_eq hq; have := HGP.out; omega); have hqo7 := hqo3.kept hg7 (.inr (ob_ne (Ne.symm hne))); have hne7 : gp' ≠ gq := (by rcases hat7 with e | e <;> first | (have h9 := ob_eq e; omega) | omega); have hz7 := hg7.size; have HZ7 := Lib.hid (news_one ((hg7.cell_far ⟨w6.heap.size, 0, none⟩ (by show w6.heap.size < WA3.heap.size; omega) (fun e => by have h9 : gp = w6.heap.size := ob_eq e.symm; omega)).trans hcz3))) | (refine step_append_lies (w := w7.alloc (.cells #[.int .i64 z] 3)) rfl _ _ 29 rfl W3.heap.size 3 i0 (.int .i64 0) 1 8 Tryz.underlying29 hi0 hi1 hi2 hi3 rfl (by decide) (.slice (some ⟨gq, 0, none⟩) m qcap) m _ rfl (ownsRow_below hqo7 ((Below.refl w7.heap.size w7).alloc (Nat.le_refl _) _) (Nat.le_refl _)) ⟨w7.heap.size, 0, none⟩ 1 1 [.int .i64 z] (by first | rfl | (simp; rfl)) rfl (news_one (by rw [cell_of_row _ w7.heap.size 0 #[.int .i64 z] 3 (0, 0) (heap_alloc_new w7 _)]; rfl)) (by simp [Value.oneCell']) (by decide) (by unfold maxLen; omega) (by omega) (by simp; have := hb7.size; omega) _ rfl ?_; intro gq' qcap' w8 hown8 hg8 hat8 hlt8; have hg8' := grownBy_old hg8; have hb8 : Below W3.heap.size W5 w8 := hb7.grown hg8' (by have := hb7.size; omega) (fun q hq => by have h9 := ob_eq hq; have := HGQ.out; omega); have hpo8 := hown7.kept hg8' (.inr (ob_ne hne7)); have hne8 : gp' ≠ gq' := (by rcases hat8 with e | e <;> first | (have h9 := ob_eq e; omega) | (have := hlt7; simp at e; omega)); have hlp8 : gp' < w8.heap.size := Nat.lt_of_lt_of_le hlt7 hg8'.size) | (refine step_append_lies (w := w7) rfl _ _ 29 rfl W3.heap.size 3 i0 (.int .i64 0) 1 8 Tryz.underlying29 hi0 hi1 hi2 hi3 rfl (by decide) (.slice (some ⟨gq, 0, none⟩) m qcap) m _ rfl hqo7 _ 1 1 [.int .i64 z] rfl rfl HZ7.out (by simp [Value.oneCell']) (by decide) (by unfold maxLen; omega) (by omega) (by have := hb7.size; omega) _ rfl ?_; intro gq' qcap' w8 hown8 hg8 hat8 hlt8; have hg8' := hg8; have hb8 : Below W3.heap.size W5 w8 := hb7.grown hg8' (by have := hb7.size; omega) (fun q hq => by have h9 := ob_eq hq; have := HGQ.out; omega); have hpo8 := hown7.kept hg8' (.inr (ob_ne hne7)); have hne8 : gp' ≠ gq' := (by rcases hat8 with e | e <;> first | (have h9 := ob_eq e; omega) | (have := hlt7; omega)); have hlp8 : gp' < w8.heap.size := Nat.lt_of_lt_of_le hlt7 hg8'.size))
          all_goals
            go_wp2_with fail
            go_roundw
            case rel => exact ⟨m + 1, gp', gq', pcap', qcap', by omega, by go_num, rfl, rfl, by rw [show (pvL ls vs l).take (m + 1) = _ from HPV.out, List.map_append]; exact hpo8, by rw [show (wideL ls (laWidths ls) l).take (m + 1) = _ from HPW.out, List.map_append]; exact hown8, hne8, hlp8, hlt8, hb8⟩
            case measure => simp [intOf] <;> omega
        · obtain rfl : m = l.parts.length := by omega
          rw [List.take_of_length_le (by simp [pvL])] at hpo
          rw [List.take_of_length_le (by simp [wideL])] at hqo
          have hlq5 := hbq.size
          have hbrq := hal05.trans (hbq.mono (Nat.le_of_lt hsz3))
          have houtq := hout.below hbrq (Nat.le_refl _)
          have hbitsq := hbits.below hbrq (by omega)
          have hbelq := hbel.trans (hbrq.mono hbel.size)
          obtain ⟨wq, hwq⟩ := wname hbelq
          subst hwq
          have hszq : W2.heap.size ≤ wq.heap.size := Nat.le_trans hszr hbrq.size
          obtain ⟨e0, e1, e2, e3, e4, e5, e6⟩ := HBX5.out.below hbq hsz3
          have HPO := Lib.hid hpo
          have HQO := Lib.hid hqo
          have hl9 : l.parts.length ≤ 1000000000 := by omega
          clear hpo hqo
          have HKIND := Lib.hid (kind_any HQ.out HX.out HOK.out)
          rcases HKIND.out with k1 | k1 | k1 | k1 | k1 | k1
          · rw [k1] at e0
            rcases kind1_val HQ.out HX.out HOK.out k1 with ⟨hp, v, hv, hval⟩ | ⟨hp, v, hv, hval⟩
            · have HST2 : Hid (runV ls a b (k + 1) = (vs ++ [v], t0 + 1, t1)) := by
                show _ = _
                rw [HSTEP.out]
                unfold stepV
                simp only []
                rw [hval, if_pos ⟨k1, by omega⟩, if_neg (by omega)]
              have hlt0 : t0 < na := by rw [← HA1.out.1]; exact (List.getElem?_eq_some_iff.1 hv).1
              obtain ⟨b5, o5, v', rfl, hbb5, hv5, q5⟩ := (HA1.out.below hbelq hb1.size).at hlt0
              rw [hv] at hv5
              obtain rfl : v = v' := by simpa using hv5
              rw [hp] at e4
              obtain ⟨c0, c1, f0, f1⟩ := hbitsq
              obtain ⟨W7, hW7⟩ := set_of hbelq ⟨Wa.heap.size, 0, none⟩ (.int .i64 ((t0 : Int) + 1))
              have hbits7 : Bits2 W7 Wa.heap.size ((t0 + 1 : Nat) : Int) (t1 : Nat) := by rw [hW7]; exact (show Bits2 _ Wa.heap.size (t0 : Nat) (t1 : Nat) from ⟨c0, c1, f0, f1⟩).set0 _
              have hout7 : OwnI W2.heap.size W7 co k cap vs := by rw [hW7]; exact houtq.other (grown_setCell _ _ _) (fun q l h1 h2 => by have := houtq.rowLt q h1; simp at h2; omega)
              have hbe7 : Below w1.heap.size w1 W7 := by rw [hW7]; exact below_set hbelq _ _ (by show w1.heap.size ≤ Wa.heap.size; omega)
              have hsz7 : W2.heap.size ≤ W7.heap.size := by rw [hW7]; simp; omega
              have HW7 := Lib.hid hW7
              clear hW7 hv hval hv5 hp
              go_wp2_with (first | rw [← HW7.out] | (at_builtin; refine wpList_append_i rfl _ _ rfl W2.heap.size _ _ _ _ _ rfl (by first | rfl | (simp; rfl)) hout7 (by omega) (by omega) ?_; intro ao' cap' w9 hown9 hg9))
              have hbe9 := hbe7.grown hg9 (by omega) (fun q hq => by have := hout7.rowLt q hq; omega)
              have hbi9 := hbits7.grown hg9 (by omega) (fun e => by have := hout7.rowLt _ e.symm; omega)
              have hsz9 := hg9.size
              go_roundw
              case rel => exact ⟨k + 1, ao', cap', by omega, by go_num, rfl, by rw [HST2.out]; exact hown9, by rw [HST2.out]; exact hbi9, hbe9, by omega⟩
              case measure => simp [intOf] <;> omega
            · have HST2 : Hid (runV ls a b (k + 1) = (vs ++ [v], t0, t1 + 1)) := by
                show _ = _
                rw [HSTEP.out]
                unfold stepV
                simp only []
                rw [hval, if_neg (by omega), if_pos ⟨k1, by omega⟩]
              have hlt0 : t1 < nb := by rw [← HB1.out.1]; exact (List.getElem?_eq_some_iff.1 hv).1
              obtain ⟨b5, o5, v', rfl, hbb5, hv5, q5⟩ := (HB1.out.below hbelq hb1.size).at hlt0
              rw [hv] at hv5
              obtain rfl : v = v' := by simpa using hv5
              rw [hp] at e4
              obtain ⟨c0, c1, f0, f1⟩ := hbitsq
              obtain ⟨W7, hW7⟩ := set_of hbelq ⟨Wa.heap.size, 1, none⟩ (.int .i64 ((t1 : Int) + 1))
              have hbits7 : Bits2 W7 Wa.heap.size (t0 : Nat) ((t1 + 1 : Nat) : Int) := by rw [hW7]; exact (show Bits2 _ Wa.heap.size (t0 : Nat) (t1 : Nat) from ⟨c0, c1, f0, f1⟩).set1 _
              have hout7 : OwnI W2.heap.size W7 co k cap vs := by rw [hW7]; exact houtq.other (grown_setCell _ _ _) (fun q l h1 h2 => by have := houtq.rowLt q h1; simp at h2; omega)
              have hbe7 : Below w1.heap.size w1 W7 := by rw [hW7]; exact below_set hbelq _ _ (by show w1.heap.size ≤ Wa.heap.size; omega)
              have hsz7 : W2.heap.size ≤ W7.heap.size := by rw [hW7]; simp; omega
              have HW7 := Lib.hid hW7
              clear hW7 hv hval hv5 hp
              go_wp2_with (first | rw [← HW7.out] | (at_builtin; refine wpList_append_i rfl _ _ rfl W2.heap.size _ _ _ _ _ rfl (by first | rfl | (simp; rfl)) hout7 (by omega) (by omega) ?_; intro ao' cap' w9 hown9 hg9))
              have hbe9 := hbe7.grown hg9 (by omega) (fun q hq => by have := hout7.rowLt q hq; omega)
              have hbi9 := hbits7.grown hg9 (by omega) (fun e => by have := hout7.rowLt _ e.symm; omega)
              have hsz9 := hg9.size
              go_roundw
              case rel => exact ⟨k + 1, ao', cap', by omega, by go_num, rfl, by rw [HST2.out]; exact hown9, by rw [HST2.out]; exact hbi9, hbe9, by omega⟩
              case measure => simp [intOf] <;> omega
          · rw [k1] at e0
            have hval := kind2_val HQ.out HX.out HOK.out k1
            have HST2 : Hid (runV ls a b (k + 1) = (vs ++ [l.value], t0, t1)) := by
              show _ = _
              rw [HSTEP.out]
              unfold stepV
              simp only []
              rw [hval, if_neg (by omega), if_neg (by omega)]
            clear hval k1
            go_wp2_with (first | (at_builtin; refine wpList_append_i rfl _ _ rfl W2.heap.size _ _ _ _ _ rfl (by first | rfl | (simp; rfl)) houtq (by omega) (by omega) ?_; intro ao' cap' w9 hown9 hg9))
            have hbe9 := hbelq.grown hg9 (by omega) (fun q hq => by have := houtq.rowLt q hq; omega)
            have hbi9 := hbitsq.grown hg9 (by omega) (fun e => by have := houtq.rowLt _ e.symm; omega)
            have hsz9 := hg9.size
            go_roundw
            case rel => exact ⟨k + 1, ao', cap', by omega, by go_num, rfl, by rw [HST2.out]; exact hown9, by rw [HST2.out]; exact hbi9, hbe9, by omega⟩
            case measure => simp [intOf] <;> omega
          · rw [k1] at e0
            obtain ⟨g, u, v, hpv, hwv, hg10, hu, hv, hop, hval⟩ := kind3_val HQ.out HX.out HOK.out k1
            have HST2 : Hid (runV ls a b (k + 1) = (vs ++ [opF l.op g u v], t0, t1)) := by
              show _ = _
              rw [HSTEP.out]
              unfold stepV
              simp only []
              rw [hval, if_neg (by omega), if_neg (by omega)]
            have hzD : ∀ n, (wq.drewN n).heap.size = wq.heap.size := fun _ => rfl
            have houtD : ∀ n, OwnI W2.heap.size (wq.drewN n) co k cap vs := fun n => houtq.below (bdrewN (Below.refl _ _) n) (Nat.le_refl _)
            have hbelD : ∀ n, Below w1.heap.size w1 (wq.drewN n) := fun n => bdrewN hbelq n
            have hbitsD : ∀ n, Bits2 (wq.drewN n) Wa.heap.size (t0 : Nat) (t1 : Nat) := fun n => hbitsq.below (bdrewN (Below.refl wq.heap.size _) n) (by omega)
            have hlen : l.parts.length = 2 := by have := congrArg List.length hpv; simpa [pvL] using this
            have d0 := rowI_at HPO.out hl9 (i := 0) (y := u) (by rw [hpv]; rfl)
            have d1 := rowI_at HPO.out hl9 (i := 1) (y := v) (by rw [hpv]; rfl)
            have d2 := rowI_at HQO.out hl9 (i := 0) (y := g) (by rw [hwv]; rfl)
            clear hval k1 hpv hwv
            go_wp2_with fail
            go_quiet ((go_at_call 69; exact quiet_left (operate_any _ _ _ _ _ hop hg10 hu hv)))
            go_wp2_with (first | (at_builtin; refine wpList_append_i rfl _ _ rfl W2.heap.size _ _ _ _ _ rfl (by first | rfl | (simp; rfl)) (houtD _) (by omega) (by rw [hzD]; omega) ?_; intro ao' cap' w9 hown9 hg9))
            have hbe9 := (hbelD _).grown hg9 (by rw [hzD]; omega) (fun q hq => by have := houtq.rowLt q hq; omega)
            have hbi9 := (hbitsD _).grown hg9 (by rw [hzD]; omega) (fun e => by have := houtq.rowLt _ e.symm; omega)
            have hsz9 : wq.heap.size ≤ w9.heap.size := hg9.size
            go_roundw
            case rel => exact ⟨k + 1, ao', cap', by omega, by go_num, rfl, by rw [HST2.out]; exact hown9, by rw [HST2.out]; exact hbi9, hbe9, by omega⟩
            case measure => simp [intOf] <;> omega
          · rw [k1] at e0
            obtain ⟨g, u, hpv, hwv, hg10, hu, hval⟩ := kind4_val HQ.out HX.out HOK.out k1
            have HST2 : Hid (runV ls a b (k + 1) = (vs ++ [2 ^ g - 1 - (u : Int)], t0, t1)) := by
              show _ = _
              rw [HSTEP.out]
              unfold stepV
              simp only []
              rw [hval, if_neg (by omega), if_neg (by omega)]
            have hzD : ∀ n, (wq.drewN n).heap.size = wq.heap.size := fun _ => rfl
            have houtD : ∀ n, OwnI W2.heap.size (wq.drewN n) co k cap vs := fun n => houtq.below (bdrewN (Below.refl _ _) n) (Nat.le_refl _)
            have hbelD : ∀ n, Below w1.heap.size w1 (wq.drewN n) := fun n => bdrewN hbelq n
            have hbitsD : ∀ n, Bits2 (wq.drewN n) Wa.heap.size (t0 : Nat) (t1 : Nat) := fun n => hbitsq.below (bdrewN (Below.refl wq.heap.size _) n) (by omega)
            have hlen : l.parts.length = 1 := by have := congrArg List.length hpv; simpa [pvL] using this
            have d0 := rowI_at HPO.out hl9 (i := 0) (y := u) (by rw [hpv]; rfl)
            have d2 := rowI_at HQO.out hl9 (i := 0) (y := g) (by rw [hwv]; rfl)
            have HW1 := Lib.hid (wrap_not hg10 hu)
            clear hval k1 hpv hwv hu
            go_wp2_with fail
            go_quiet (fail)
            go_wp2_with (first | (rw [HW1.out]) | (at_builtin; refine wpList_append_i rfl _ _ rfl W2.heap.size _ _ _ _ _ rfl (by first | rfl | (simp; rfl)) (houtD _) (by omega) (by rw [hzD]; omega) ?_; intro ao' cap' w9 hown9 hg9))
            have hbe9 := (hbelD _).grown hg9 (by rw [hzD]; omega) (fun q hq => by have := houtq.rowLt q hq; omega)
            have hbi9 := (hbitsD _).grown hg9 (by rw [hzD]; omega) (fun e => by have := houtq.rowLt _ e.symm; omega)
            have hsz9 : wq.heap.size ≤ w9.heap.size := hg9.size
            go_roundw
            case rel => exact ⟨k + 1, ao', cap', by omega, by go_num, rfl, by rw [HST2.out]; exact hown9, by rw [HST2.out]; exact hbi9, hbe9, by omega⟩
            case measure => simp [intOf] <;> omega
          · rw [k1] at e0
            obtain ⟨u, v, z, hpv, ⟨rfl, hval⟩ | ⟨rfl, hval⟩⟩ := kind5_val HQ.out HX.out HOK.out k1
            · have HST2 : Hid (runV ls a b (k + 1) = (vs ++ [z], t0, t1)) := by
                show _ = _
                rw [HSTEP.out]
                unfold stepV
                simp only []
                rw [hval, if_neg (by omega), if_neg (by omega)]
              have hlen : l.parts.length = 3 := by have := congrArg List.length hpv; simpa [pvL] using this
              have d0 := rowI_at HPO.out hl9 (i := 0) (y := 0) (by rw [hpv]; rfl)
              have d1 := rowI_at HPO.out hl9 (i := 2) (y := z) (by rw [hpv]; rfl)
              clear hval k1 hpv
              go_wp2_with (first | (at_builtin; refine wpList_append_i rfl _ _ rfl W2.heap.size _ _ _ _ _ rfl (by first | rfl | (simp; rfl)) houtq (by omega) (by omega) ?_; intro ao' cap' w9 hown9 hg9))
              have hbe9 := hbelq.grown hg9 (by omega) (fun q hq => by have := houtq.rowLt q hq; omega)
              have hbi9 := hbitsq.grown hg9 (by omega) (fun e => by have := houtq.rowLt _ e.symm; omega)
              have hsz9 := hg9.size
              go_roundw
              case rel => exact ⟨k + 1, ao', cap', by omega, by go_num, rfl, by rw [HST2.out]; exact hown9, by rw [HST2.out]; exact hbi9, hbe9, by omega⟩
              case measure => simp [intOf] <;> omega
            · have HST2 : Hid (runV ls a b (k + 1) = (vs ++ [v], t0, t1)) := by
                show _ = _
                rw [HSTEP.out]
                unfold stepV
                simp only []
                rw [hval, if_neg (by omega), if_neg (by omega)]
              have hlen : l.parts.length = 3 := by have := congrArg List.length hpv; simpa [pvL] using this
              have d0 := rowI_at HPO.out hl9 (i := 0) (y := 1) (by rw [hpv]; rfl)
              have d1 := rowI_at HPO.out hl9 (i := 1) (y := v) (by rw [hpv]; rfl)
              clear hval k1 hpv
              go_wp2_with (first | (at_builtin; refine wpList_append_i rfl _ _ rfl W2.heap.size _ _ _ _ _ rfl (by first | rfl | (simp; rfl)) houtq (by omega) (by omega) ?_; intro ao' cap' w9 hown9 hg9))
              have hbe9 := hbelq.grown hg9 (by omega) (fun q hq => by have := houtq.rowLt q hq; omega)
              have hbi9 := hbitsq.grown hg9 (by omega) (fun e => by have := houtq.rowLt _ e.symm; omega)
              have hsz9 := hg9.size
              go_roundw
              case rel => exact ⟨k + 1, ao', cap', by omega, by go_num, rfl, by rw [HST2.out]; exact hown9, by rw [HST2.out]; exact hbi9, hbe9, by omega⟩
              case measure => simp [intOf] <;> omega
          · rw [k1] at e0
            obtain ⟨u, hpv, hval⟩ := kind6_val HQ.out HX.out HOK.out k1
            have HST2 : Hid (runV ls a b (k + 1) = (vs ++ [u], t0, t1)) := by
              show _ = _
              rw [HSTEP.out]
              unfold stepV
              simp only []
              rw [hval, if_neg (by omega), if_neg (by omega)]
            have hlen : l.parts.length = 1 := by have := congrArg List.length hpv; simpa [pvL] using this
            have d0 := rowI_at HPO.out hl9 (i := 0) (y := u) (by rw [hpv]; rfl)
            clear hval k1 hpv
            go_wp2_with (first | (at_builtin; refine wpList_append_i rfl _ _ rfl W2.heap.size _ _ _ _ _ rfl (by first | rfl | (simp; rfl)) houtq (by omega) (by omega) ?_; intro ao' cap' w9 hown9 hg9))
            have hbe9 := hbelq.grown hg9 (by omega) (fun q hq => by have := houtq.rowLt q hq; omega)
            have hbi9 := hbitsq.grown hg9 (by omega) (fun e => by have := houtq.rowLt _ e.symm; omega)
            have hsz9 := hg9.size
            go_roundw
            case rel => exact ⟨k + 1, ao', cap', by omega, by go_num, rfl, by rw [HST2.out]; exact hown9, by rw [HST2.out]; exact hbi9, hbe9, by omega⟩
            case measure => simp [intOf] <;> omega
    · obtain rfl : k = n1 := by omega
      have HV : (runV ls a b k).1 = valsL ls a b := by unfold valsL; rw [hl.out]
      rw [HV] at hout
      clear HV
      go_wp2_with fail
      go_ret
      exact ⟨_, _, _, rfl, hout.up (by have := hb1.size; omega), hbelw⟩
end Go.Proofs.YtdlddkgmjpmenaaGreatDoor
