/-
  Circuits: the numbers of gates of all kinds.
-/
import Derived.Test.YtbdccgodamkljaaCirc4
import Derived.Test.YtbdccgodamkljaaWord
namespace Go.Proofs.Ytbdccgodamkljaa
open Go.RowKit
set_option linter.unusedVariables false
set_option linter.unusedSimpArgs false

theorem get_at {α : Type} {l : List α} {n i : Nat} (hl : l.length = n) (h : i < n) : ∃ x, l[i]? = some x := ⟨_, List.getElem?_eq_getElem (by omega)⟩
theorem OwnI.blk {B : Nat} {w : World} {ao : Option Addr} {n cap : Nat} {xs : List Int} (h : OwnI B w ao n cap xs) (hn : 0 < n) : ∃ g, ao = some ⟨g, 0, none⟩ ∧ B ≤ g ∧ g < w.heap.size := by
  obtain ⟨g, h1, h2, h3, _⟩ := h.2.2.some hn
  exact ⟨g, h1, h2, h3⟩
theorem made_ints {B : Nat} {w : World} {b n : Nat} (hn : n ≤ 1000000000) (h : w.ownsRow B 3 1 (.slice (some ⟨b, 0, none⟩) n n) n (madeCells (Value.int .i64 0).cells (n * 1)).toList) : OwnI B w (some ⟨b, 0, none⟩) n n (List.replicate n 0) := by
  rw [show (Value.int IntKind.i64 0).cells = #[.int .i64 0] from rfl, toList_madeCells_one, Nat.mul_one] at h
  exact ⟨by simp, hn, .inr ⟨_, rfl, by simpa using h⟩⟩
/-- The kinds of gates are numbers from 0 to 3. -/
def kindsOk (l : List (Int × Int × Int)) : Prop := ∀ (k : Nat) (g : Int × Int × Int), l[k]? = some g → 0 ≤ g.1 ∧ g.1 ≤ 3
theorem gateB_kind {own : Int} {g : Int × Int × Int} (h : gateB own g = true) : 0 ≤ g.1 ∧ g.1 ≤ 3 := by
  unfold gateB at h
  split at h
  · omega
  · split at h
    · omega
    · split at h
      · omega
      · cases h
theorem okG_kinds {l : List (Int × Int × Int)} {own : Int} (h : okG l own = true) : kindsOk l := fun k g hg => gateB_kind (okG_at l own k g h hg)
def cntStep (o : List Int) (g : Int × Int × Int) : List Int := o.set g.1.toNat (o.getD g.1.toNat 0 + 1)
def cntK (l : List (Int × Int × Int)) : List Int := l.foldl cntStep [0, 0, 0, 0]
theorem cntK_step {l : List (Int × Int × Int)} {k : Nat} {g : Int × Int × Int} (h : l[k]? = some g) : cntK (l.take (k + 1)) = cntStep (cntK (l.take k)) g := by
  rw [cntK, cntK, List.take_add_one, h]; simp [List.foldl_append]
theorem cntK_le (l : List (Int × Int × Int)) : ∀ (o : List Int) (m : Int), (∀ (i : Nat) (x : Int), o[i]? = some x → 0 ≤ x ∧ x ≤ m) → ∀ (i : Nat) (x : Int), (l.foldl cntStep o)[i]? = some x → 0 ≤ x ∧ x ≤ m + l.length := by
  induction l with
  | nil => intro o m h i x hx; have := h i x hx; simp; omega
  | cons g l ih =>
    intro o m h i x hx
    have := ih (cntStep o g) (m + 1) (fun i x hx => by
      unfold cntStep at hx
      rw [List.getElem?_set] at hx
      split at hx
      · split at hx
        · rename_i h1 h2
          have hx := Option.some.inj hx
          have := h g.1.toNat (o[g.1.toNat]'(by simpa using h2)) (by simp)
          have e : o.getD g.1.toNat 0 = o[g.1.toNat]'(by simpa using h2) := by simp [List.getD, show g.1.toNat < o.length by simpa using h2]
          omega
        · cases hx
      · have := h i x hx; omega) i x (by simpa using hx)
    simp
    omega
def smallC (k : Nat) (o : List Int) : Prop := ∀ (i : Nat) (x : Int), o[i]? = some x → 0 ≤ x ∧ x ≤ k
theorem cntK_small (l : List (Int × Int × Int)) : smallC l.length (cntK l) := fun i x hx => by
  have := cntK_le l [0, 0, 0, 0] 0 (fun i x h => by
    match i, h with
    | 0, h => simp at h; omega
    | 1, h => simp at h; omega
    | 2, h => simp at h; omega
    | 3, h => simp at h; omega
    | i + 4, h => simp at h) i x hx
  omega
theorem cnt_len (l : List (Int × Int × Int)) : ∀ o : List Int, (l.foldl cntStep o).length = o.length := by
  induction l with
  | nil => intro o; rfl
  | cons g l ih => intro o; rw [List.foldl_cons, ih]; simp [cntStep]
theorem countKinds_any (w : World) (ga : Option Addr) (gn gc : Nat) (gs : List Int) (hg : Flat 3 w w.heap.size ga gn gs) (hn : gn ≤ 300) (hk : kindsOk (gts gs)) :
    Calls Try.prog 81 #[.slice ga gn gc] w (RetI (cntK (gts gs)) w) := by
  have HK := Lib.hid hk
  have hml := Lib.hid (gts_length gn gs hg.1)
  obtain ⟨i0', hi, hz0, hz1, hz2⟩ := info_parts int_info
  clear hk
  have hb0 := Below.refl w.heap.size w
  go_enter Try.func81, Try.ntmps81
  go_wp2_with (at_make; refine wpList_make_full _ rfl _ _ 23 rfl w.heap.size 3 i0' (.int .i64 0) 1 Try.underlying23 hi hz0 hz1 _ _ _ _ 4 rfl rfl rfl rfl (by rw [hz2]; decide) (by decide) (Nat.le_refl _) ?_; intro w1 hown1 hg1)
  replace hown1 := made_ints (by decide) hown1
  have hb1 : Below w.heap.size w w1 := hb0.trans (((Below.refl _ _).grown hg1 (Nat.le_refl _) (by simp)).mono hb0.size)
  replace hown1 := hown1.up hb0.size
  clear hi hz0 hz1 hz2 hg1
  go_loopw [9] (fun i wr => ∃ k : Nat, k ≤ gn ∧ i = .int .i64 k ∧ OwnI w.heap.size wr (some ⟨w.heap.size, 0, none⟩) 4 4 (cntK ((gts gs).take k)) ∧ Below w.heap.size w wr) (fun i _ => gn - (intOf i).toNat)
  case atStart => exact ⟨0, Nat.zero_le _, rfl, by simpa [cntK] using hown1, hb1⟩
  case round =>
    obtain ⟨k, hk, rfl, hout, hbel⟩ := hrel
    by_cases hlt : k < gn
    · obtain ⟨b1, o1, x, y, z, rfl, hbb, hgk, c0, c1, c2⟩ := hg.gate hlt
      have g0 : wr.cell? ⟨b1, o1 + k * 3, none⟩ = some (.int .i64 x) := (hbel.cell (by exact hbb)).trans c0
      have g1 : wr.cell? ⟨b1, o1 + k * 3 + 1, none⟩ = some (.int .i64 y) := (hbel.cell (by exact hbb)).trans c1
      have g2 : wr.cell? ⟨b1, o1 + k * 3 + 2, none⟩ = some (.int .i64 z) := (hbel.cell (by exact hbb)).trans c2
      have hkk := HK.out k _ hgk
      have HSTEP := Lib.hid (cntK_step hgk)
      have hsm := cntK_small ((gts gs).take k)
      have htl : ((gts gs).take k).length = k := by simp [hml.out]; omega
      rw [htl] at hsm
      have hol := hout.1
      obtain ⟨O, hO⟩ : ∃ O, O = cntK ((gts gs).take k) := ⟨_, rfl⟩
      rw [← hO] at hout hsm HSTEP hol
      clear c0 c1 c2 hgk hO htl
      obtain ⟨xn, rfl⟩ := Int.eq_ofNat_of_zero_le hkk.1
      have hx4 : xn < 4 := by have := hkk.2; simp at this; omega
      obtain ⟨v, hv⟩ := get_at (i := xn) hol hx4
      obtain ⟨v0, v1⟩ := hsm xn v hv
      have HST2 : Hid (cntStep O ((xn : Int), y, z) = O.set xn (v + 1)) := by show _ = _; simp [cntStep, List.getD, hv]
      have hal : Below wr.heap.size wr (wr.alloc (.cells #[.int .i64 (xn : Int), .int .i64 y, .int .i64 z] 68)) := (Below.refl _ _).alloc (Nat.le_refl _) _
      have hbel2 := hbel.trans (hal.mono hbel.size)
      have hout2 := hout.below hal (Nat.le_refl _)
      have hcell := hout2.cell hv
      obtain ⟨s1, s2, f1⟩ := hout2.set (k := xn) hx4 (v + 1)
      have hs1 := Lib.hid s1
      have hs2 := Lib.hid s2
      have HV := Lib.hid hv
      clear hv s1 s2 hsm hol
      go_wp2_with fail
      go_roundw
      case rel => exact ⟨k + 1, by omega, by go_num, by rw [HSTEP.out, HST2.out]; exact hs1.out, below_set hbel2 hout2 hs2.out hbel2.size⟩
      case measure => simp [intOf] <;> omega
    · obtain rfl : k = gn := by omega
      go_wp2_with fail
      go_ret
      rw [List.take_of_length_le (by rw [hml.out]; exact Nat.le_refl _)] at hout
      exact ⟨_, _, _, rfl, hout, hbel⟩
theorem ciCounts_any (w : World) (i0 i1 : Int) (ga oa : Option Addr) (gn gc on oc : Nat) (gs : List Int) (hg : Flat 3 w w.heap.size ga gn gs) (hn : gn ≤ 300) (hk : kindsOk (gts gs)) :
    Calls Try.prog 80 #[circV i0 i1 ga gn gc oa on oc] w (RetI (cntK (gts gs)) w) := by
  have HK := Lib.hid hk
  have hml := Lib.hid (gts_length gn gs hg.1)
  obtain ⟨i0', hi, hz0, hz1, hz2⟩ := info_parts int_info
  clear hk
  have hbx := boxC_new w i0 i1 ga gn gc oa on oc 30
  have hb0 : Below w.heap.size w (w.alloc (.cells #[.int .i64 i0, .int .i64 i1, .slice ga gn gc, .slice oa on oc] 30)) := (Below.refl _ _).alloc (Nat.le_refl _) _
  have hsz : w.heap.size < (w.alloc (.cells #[.int .i64 i0, .int .i64 i1, .slice ga gn gc, .slice oa on oc] 30)).heap.size := by simp
  unfold circV
  go_enter Try.func80, Try.ntmps80
  go_wp2_with (at_make; refine wpList_make_full _ rfl _ _ 23 rfl (w.alloc (.cells #[.int .i64 i0, .int .i64 i1, .slice ga gn gc, .slice oa on oc] 30)).heap.size 3 i0' (.int .i64 0) 1 Try.underlying23 hi hz0 hz1 _ _ _ _ 4 rfl rfl rfl rfl (by rw [hz2]; decide) (by decide) (Nat.le_refl _) ?_; intro w1 hown1 hg1; obtain ⟨c0, c1, c2, c3⟩ := hbx.below ((Below.refl _ _).grown hg1 (Nat.le_refl _) (by simp)) hsz)
  replace hown1 := made_ints (by decide) hown1
  have hze : (w.alloc (.cells #[.int .i64 i0, .int .i64 i1, .slice ga gn gc, .slice oa on oc] 30)).heap.size = w.heap.size + 1 := by simp
  have hb1 : Below w.heap.size w w1 := hb0.trans (((Below.refl _ _).grown hg1 (Nat.le_refl _) (by simp)).mono hb0.size)
  replace hown1 := hown1.up hb0.size
  rw [hze] at hown1
  clear hi hz0 hz1 hz2 hg1
  go_loopw [10] (fun i wr => ∃ k : Nat, k ≤ gn ∧ i = .int .i64 k ∧ OwnI w.heap.size wr (some ⟨w.heap.size + 1, 0, none⟩) 4 4 (cntK ((gts gs).take k)) ∧ Below w.heap.size w wr) (fun i _ => gn - (intOf i).toNat)
  case atStart => exact ⟨0, Nat.zero_le _, rfl, by simpa [cntK] using hown1, hb1⟩
  case round =>
    obtain ⟨k, hk, rfl, hout, hbel⟩ := hrel
    by_cases hlt : k < gn
    · obtain ⟨b1, o1, x, y, z, rfl, hbb, hgk, c0, c1, c2⟩ := hg.gate hlt
      have g0 : wr.cell? ⟨b1, o1 + k * 3, none⟩ = some (.int .i64 x) := (hbel.cell (by exact hbb)).trans c0
      have g1 : wr.cell? ⟨b1, o1 + k * 3 + 1, none⟩ = some (.int .i64 y) := (hbel.cell (by exact hbb)).trans c1
      have g2 : wr.cell? ⟨b1, o1 + k * 3 + 2, none⟩ = some (.int .i64 z) := (hbel.cell (by exact hbb)).trans c2
      have hkk := HK.out k _ hgk
      have HSTEP := Lib.hid (cntK_step hgk)
      have hsm := cntK_small ((gts gs).take k)
      have htl : ((gts gs).take k).length = k := by simp [hml.out]; omega
      rw [htl] at hsm
      have hol := hout.1
      obtain ⟨O, hO⟩ : ∃ O, O = cntK ((gts gs).take k) := ⟨_, rfl⟩
      rw [← hO] at hout hsm HSTEP hol
      clear c0 c1 c2 hgk hO htl
      obtain ⟨xn, rfl⟩ := Int.eq_ofNat_of_zero_le hkk.1
      have hx4 : xn < 4 := by have := hkk.2; simp at this; omega
      obtain ⟨v, hv⟩ := get_at (i := xn) hol hx4
      obtain ⟨v0, v1⟩ := hsm xn v hv
      have HST2 : Hid (cntStep O ((xn : Int), y, z) = O.set xn (v + 1)) := by show _ = _; simp [cntStep, List.getD, hv]
      have hal : Below wr.heap.size wr (wr.alloc (.cells #[.int .i64 (xn : Int), .int .i64 y, .int .i64 z] 68)) := (Below.refl _ _).alloc (Nat.le_refl _) _
      have hbel2 := hbel.trans (hal.mono hbel.size)
      have hout2 := hout.below hal (Nat.le_refl _)
      have hcell := hout2.cell hv
      obtain ⟨s1, s2, f1⟩ := hout2.set (k := xn) hx4 (v + 1)
      have hs1 := Lib.hid s1
      have hs2 := Lib.hid s2
      have HV := Lib.hid hv
      clear hv s1 s2 hsm hol
      go_wp2_with fail
      go_roundw
      case rel => exact ⟨k + 1, by omega, by go_num, by rw [HSTEP.out, HST2.out]; exact hs1.out, below_set hbel2 hout2 hs2.out hbel2.size⟩
      case measure => simp [intOf] <;> omega
    · obtain rfl : k = gn := by omega
      go_wp2_with fail
      go_ret
      rw [List.take_of_length_le (by rw [hml.out]; exact Nat.le_refl _)] at hout
      exact ⟨_, _, _, rfl, hout, hbel⟩
theorem isCirc_facts {i0 i1 : Int} {gs os : List Int} {gn on : Nat} (hg : gs.length = gn * 3) (ho : os.length = on) (h : isCircF i0 i1 gs os = true) :
    inB i0 0 20 = true ∧ inB i1 0 20 = true ∧ gn ≤ 300 ∧ on ≤ 40 ∧ okG (gts gs) (i0 + i1) = true ∧ allIn 0 (i0 + i1 + gn - 1) os = true := by
  simp only [isCircF, Bool.and_eq_true, decide_eq_true_eq, gts_length gn gs hg] at h
  obtain ⟨h1, h2, h3, h4, h5, h6⟩ := h
  exact ⟨h1, h2, by omega, by omega, h5, h6⟩
def countGatesF (i0 i1 : Int) (gs os : List Int) : List Int × Bool := if isCircF i0 i1 gs os = true then (cntK (gts gs), true) else ([], false)
theorem spec_CountGates_any (w : World) (i0 i1 : Int) (ga oa : Option Addr) (gn gc on oc : Nat) (gs os : List Int) (hg : Flat 3 w w.heap.size ga gn gs) (ho : Ints w w.heap.size oa on os) :
    Calls Try.prog 31 #[circV i0 i1 ga gn gc oa on oc] w (RetIB (countGatesF i0 i1 gs os) w) := by
  have hb0 : Below w.heap.size w (w.alloc (.cells #[.int .i64 i0, .int .i64 i1, .slice ga gn gc, .slice oa on oc] 30)) := (Below.refl _ _).alloc (Nat.le_refl _) _
  have hbx := boxC_new w i0 i1 ga gn gc oa on oc 30
  have hsz : w.heap.size < (w.alloc (.cells #[.int .i64 i0, .int .i64 i1, .slice ga gn gc, .slice oa on oc] 30)).heap.size := by simp
  have hg1 := (hg.below hb0 (Nat.le_refl _)).up hb0.size
  have ho1 := (ho.below hb0 (Nat.le_refl _)).up hb0.size
  have hgl := Lib.hid hg.1
  have hol := Lib.hid ho.1
  unfold circV
  cases hc : isCircF i0 i1 gs os
  · go_enter Try.func31, Try.ntmps31
    go_wp2_with (go_at_call 54; refine (ciGood_any _ _ _ _ _ _ _ _ _ _ _ hg1 ho1).mono ?_; rintro e w1 ⟨rfl, hb1⟩; rw [hc])
    go_ret2
    exact ⟨none, 0, 0, by simp [countGatesF, hc], by simpa [countGatesF, hc] using OwnI.nil _ _ _, hb0.trans (hb1.mono hb0.size)⟩
  · obtain ⟨h0, h1, h3, h4, h5, h6⟩ := isCirc_facts hgl.out hol.out hc
    have HK := Lib.hid (okG_kinds h5)
    have HE : Hid (countGatesF i0 i1 gs os = (cntK (gts gs), true)) := by show _ = _; simp [countGatesF, hc]
    go_enter Try.func31, Try.ntmps31
    go_wp2_with fail
    generalize w.alloc (.cells #[.int .i64 i0, .int .i64 i1, .slice ga gn gc, .slice oa on oc] 30) = w0 at *
    refine (ciGood_any _ _ _ _ _ _ _ _ _ _ _ hg1 ho1).mono ?_
    rintro e w1 ⟨rfl, hb1⟩
    rw [hc]
    obtain ⟨c0, c1, c2, c3⟩ := hbx.below hb1 hsz
    go_wp2_with fail
    refine (ciCounts_any _ _ _ _ _ _ _ _ _ _ ((hg1.below hb1 (Nat.le_refl _)).up hb1.size) h3 HK.out).mono ?_
    rintro e w2 ⟨a2, n2, c2, rfl, ho2, hb2⟩
    go_wp2_with fail
    go_ret2
    exact ⟨_, _, _, by rw [HE.out]; rfl, by rw [HE.out]; exact ho2.up (Nat.le_trans hb0.size hb1.size), hb0.trans ((hb1.trans (hb2.mono hb1.size)).mono hb0.size)⟩
theorem impl_CountGates_any (w : World) (i0 i1 : Int) (ga oa : Option Addr) (gn gc on oc : Nat) (gs os : List Int) (hg : Flat 3 w w.heap.size ga gn gs) (ho : Ints w w.heap.size oa on os) :
    Calls Try.prog 32 #[circV i0 i1 ga gn gc oa on oc] w (RetIB (countGatesF i0 i1 gs os) w) := by
  have hb0 : Below w.heap.size w (w.alloc (.cells #[.int .i64 i0, .int .i64 i1, .slice ga gn gc, .slice oa on oc] 30)) := (Below.refl _ _).alloc (Nat.le_refl _) _
  have hbx := boxC_new w i0 i1 ga gn gc oa on oc 30
  have hsz : w.heap.size < (w.alloc (.cells #[.int .i64 i0, .int .i64 i1, .slice ga gn gc, .slice oa on oc] 30)).heap.size := by simp
  have hg1 := (hg.below hb0 (Nat.le_refl _)).up hb0.size
  have ho1 := (ho.below hb0 (Nat.le_refl _)).up hb0.size
  have hgl := Lib.hid hg.1
  have hol := Lib.hid ho.1
  unfold circV
  cases hc : isCircF i0 i1 gs os
  · go_enter Try.func32, Try.ntmps32
    go_wp2_with (go_at_call 18; refine (impl_IsCircuit_any _ _ _ _ _ _ _ _ _ _ _ hg1 ho1).mono ?_; rintro e w1 ⟨rfl, hb1⟩; rw [hc])
    go_ret2
    exact ⟨none, 0, 0, by simp [countGatesF, hc], by simpa [countGatesF, hc] using OwnI.nil _ _ _, hb0.trans (hb1.mono hb0.size)⟩
  · obtain ⟨h0, h1, h3, h4, h5, h6⟩ := isCirc_facts hgl.out hol.out hc
    have HK := Lib.hid (okG_kinds h5)
    have HE : Hid (countGatesF i0 i1 gs os = (cntK (gts gs), true)) := by show _ = _; simp [countGatesF, hc]
    go_enter Try.func32, Try.ntmps32
    go_wp2_with fail
    generalize w.alloc (.cells #[.int .i64 i0, .int .i64 i1, .slice ga gn gc, .slice oa on oc] 30) = w0 at *
    refine (impl_IsCircuit_any _ _ _ _ _ _ _ _ _ _ _ hg1 ho1).mono ?_
    rintro e w1 ⟨rfl, hb1⟩
    rw [hc]
    obtain ⟨c0, c1, c2, c3⟩ := hbx.below hb1 hsz
    go_wp2_with fail
    refine (countKinds_any _ _ _ _ _ ((hg1.below hb1 (Nat.le_refl _)).up hb1.size) h3 HK.out).mono ?_
    rintro e w2 ⟨a2, n2, c2, rfl, ho2, hb2⟩
    go_wp2_with fail
    go_ret2
    exact ⟨_, _, _, by rw [HE.out]; rfl, by rw [HE.out]; exact ho2.up (Nat.le_trans hb0.size hb1.size), hb0.trans ((hb1.trans (hb2.mono hb1.size)).mono hb0.size)⟩
end Go.Proofs.Ytbdccgodamkljaa
