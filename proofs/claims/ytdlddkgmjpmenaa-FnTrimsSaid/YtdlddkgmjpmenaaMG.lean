/-
  The language: which lines results are made of: plain law; the program and the reference.
-/
import Derived.Test.YtdlddkgmjpmenaaME
import Derived.Test.YtdlddkgmjpmenaaMC
import Derived.Test.YtdlddkgmjpmenaaMD
namespace Go.Proofs.Ytdlddkgmjpmenaa
open Go.RowKit
set_option linter.unusedVariables false
set_option linter.unusedSimpArgs false

/-- A slice of bools that the call owns. -/
def OwnB (B : Nat) (w : World) (ao : Option Addr) (n cap : Nat) (bs : List Bool) : Prop := bs.length = n ∧ n ≤ 1000000000 ∧ OwnC 4 1 B w ao n cap (bs.map Value.bool)
section
variable {w w' : World} {B C : Nat} {ao : Option Addr} {n cap g : Nat} {bs : List Bool}
theorem OwnB.below (h : OwnB B w ao n cap bs) (hb : Below C w w') (hC : w.heap.size ≤ C) : OwnB B w' ao n cap bs := ⟨h.1, h.2.1, h.2.2.below hb hC⟩
theorem OwnB.up (h : OwnB B w ao n cap bs) (hC : C ≤ B) : OwnB C w ao n cap bs := ⟨h.1, h.2.1, h.2.2.up hC⟩
theorem OwnB.rowLt (h : OwnB B w ao n cap bs) : ∀ k, rowOf ao cap = .some k → B ≤ k ∧ k < w.heap.size := h.2.2.rowLt
theorem OwnB.other {row : Option Nat} (h : OwnB B w ao n cap bs) (hg : w.grownBy w' row) (hne : ∀ k l, rowOf ao cap = .some k → row = .some l → k ≠ l) : OwnB B w' ao n cap bs := by
  refine ⟨h.1, h.2.1, h.2.2.kept hg fun g hao hc he => ?_⟩
  subst hao
  exact hne g g (by simp [rowOf, hc]) he rfl
theorem OwnB.blk (h : OwnB B w ao n cap bs) (hn : 0 < n) : ∃ g, ao = some ⟨g, 0, none⟩ ∧ B ≤ g ∧ g < w.heap.size := by
  obtain ⟨g, h1, h2, h3, _⟩ := h.2.2.some hn
  exact ⟨g, h1, h2, h3⟩
theorem OwnB.set (h : OwnB B w (some ⟨g, 0, none⟩) n cap bs) {k : Nat} (hk : k < n) (v : Bool) :
    OwnB B (w.setCell ⟨g, k, none⟩ (.bool v)) (some ⟨g, 0, none⟩) n cap (bs.set k v) ∧ w.grownBy (w.setCell ⟨g, k, none⟩ (.bool v)) (rowOf (some ⟨g, 0, none⟩) cap) ∧ w.frozen? ⟨g, k, none⟩ = false ∧ w.cell? ⟨g, k, none⟩ = some (.bool (bs.getD k false)) := by
  obtain ⟨g', hg', _, _, hr⟩ := h.2.2.some (by omega)
  simp at hg'
  subst hg'
  have hcap : cap ≠ 0 := by
    rcases hr.2 with ⟨hv, h0⟩ | ⟨g2, cap2, cur, hv, _, _, hn', _⟩
    · omega
    · simp only [Value.slice.injEq] at hv
      obtain ⟨_, _, rfl⟩ := hv
      omega
  have hst := World.ownsRow.stored hr k (.bool v)
  rw [← List.map_set] at hst
  refine ⟨⟨by simp [h.1], h.2.1, .inr ⟨g, rfl, hst.1⟩⟩, by simpa [rowOf, hcap] using hst.2, World.ownsRow.frozenAt hr k, ?_⟩
  rw [World.ownsRow.cellAt hr k (by omega)]
  have : k < bs.length := by rw [h.1]; exact hk
  simp [List.getD, this]
end

theorem OwnB.cell {B : Nat} {w : World} {g n cap : Nat} {bs : List Bool} (h : OwnB B w (some ⟨g, 0, none⟩) n cap bs) {k : Nat} {x : Bool} (hx : bs[k]? = some x) : w.cell? ⟨g, k, none⟩ = some (.bool x) := by
  have hk : k < n := by rw [← h.1]; exact (List.getElem?_eq_some_iff.1 hx).1
  obtain ⟨_, _, _, hc⟩ := h.set hk true
  rw [hc]
  simp [List.getD, hx]
theorem bool_info : (Try.prog.info? 4).map (fun i => (i.zero, i.size, i.bytes)) = some (some (.bool false), 1, 1) := by kernel_rfl
theorem made_bools {B : Nat} {w : World} {b n : Nat} (hn : n ≤ 1000000000) (h : w.ownsRow B 4 1 (.slice (some ⟨b, 0, none⟩) n n) n (madeCells (Value.bool false).cells (n * 1)).toList) : OwnB B w (some ⟨b, 0, none⟩) n n (List.replicate n false) := by
  rw [show (Value.bool false).cells = #[.bool false] from rfl, toList_madeCells_one, Nat.mul_one] at h
  exact ⟨by simp, hn, .inr ⟨_, rfl, by simpa using h⟩⟩

/-- The lines of these names are marked. -/
def markP (ls : List Ln) (bs : List Bool) (ps : List ByteArray) : List Bool := ps.foldl (fun b p => b.set (findF ls p).toNat true) bs
theorem markP_snoc {ls : List Ln} {bs : List Bool} {ps : List ByteArray} {k : Nat} {p : ByteArray} (h : ps[k]? = some p) : markP ls bs (ps.take (k + 1)) = (markP ls bs (ps.take k)).set (findF ls p).toNat true := by
  unfold markP
  rw [List.take_add_one, h, List.foldl_append]; rfl
def isOut (x : Ln) : Bool := x.kind == 6
def stepN (ls : List Ln) (bs : List Bool) (i : Nat) : List Bool :=
  match ls[i]? with
  | none => bs
  | some x => if (isOut x || bs.getD i false) = true then markP ls bs x.parts else bs
/-- Behind the last t lines. -/
def ndL (ls : List Ln) : Nat → List Bool
  | 0 => List.replicate ls.length false
  | t + 1 => stepN ls (ndL ls t) (ls.length - 1 - t)
theorem markP_length (ls : List Ln) : ∀ (ps : List ByteArray) (bs : List Bool), (markP ls bs ps).length = bs.length
  | [], bs => rfl
  | p :: ps, bs => by
    show (markP ls (bs.set _ true) ps).length = _
    rw [markP_length ls ps]; simp
theorem stepN_length (ls : List Ln) (bs : List Bool) (i : Nat) : (stepN ls bs i).length = bs.length := by
  unfold stepN
  split
  · rfl
  · split
    · exact markP_length _ _ _
    · rfl
theorem ndL_length (ls : List Ln) : ∀ t, (ndL ls t).length = ls.length
  | 0 => by simp [ndL]
  | t + 1 => by rw [ndL, stepN_length, ndL_length ls t]
theorem find_take {p : Ln → Bool} {ls : List Ln} {k i : Nat} (h : (ls.take k).findIdx? p = some i) : ∃ j, ls.findIdx? p = some j := by
  cases hf : ls.findIdx? p with
  | some j => exact ⟨j, rfl⟩
  | none =>
    rw [List.findIdx?_eq_none_iff] at hf
    rw [List.findIdx?_eq_some_iff_getElem] at h
    obtain ⟨hi, hp, _⟩ := h
    have := hf _ (List.mem_of_mem_take (List.getElem_mem hi))
    rw [this] at hp
    cases hp
theorem parts_found {f : ByteArray → Int} {ws : List Int} : ∀ {ps : List ByteArray} {w : List Int}, partsBy f ws ps = some w → ∀ p ∈ ps, ¬ f p < 0
  | [], _, _, p, hp => by simp at hp
  | q :: r, w, h, p, hp => by
    unfold partsBy at h
    split at h
    · cases h
    · next hq =>
      cases hr : partsBy f ws r with
      | none => rw [hr] at h; simp at h
      | some v =>
        rcases List.mem_cons.1 hp with rfl | hp
        · exact hq
        · exact parts_found hr p hp
/-- In a program each part of a line is the name of a line. -/
theorem good_part {ls : List Ln} (hg : laGoodF ls = true) {k : Nat} {x : Ln} (h : ls[k]? = some x) {p : ByteArray} (hp : p ∈ x.parts) : 0 ≤ findF ls p ∧ findF ls p < ls.length := by
  have hok := ((widths_good ls).2 hg).2
  have h1 := laWidths_get h
  have h2 := hok.2.1 k _ h1
  refine ⟨?_, (findF_range ls p).2⟩
  unfold laWidth at h2
  split at h2
  · omega
  · next w hw =>
    have h3 := parts_found hw p hp
    unfold findF at h3 ⊢
    cases hf : (ls.take k).findIdx? (findB p) with
    | none => rw [hf] at h3; simp at h3
    | some i =>
      obtain ⟨j, hj⟩ := find_take hf
      rw [hj]; simp
/-- Only lines with a name are marked. -/
def named (ls : List Ln) (bs : List Bool) : Prop := ∀ (j : Nat) (x : Ln), bs.getD j false = true → ls[j]? = some x → isOut x = false
theorem find_named {ls : List Ln} {p : ByteArray} {j : Nat} {x : Ln} (h : (findF ls p).toNat = j) (h0 : 0 ≤ findF ls p) (hx : ls[j]? = some x) : isOut x = false := by
  unfold findF at h h0
  split at h
  · next i hi =>
    rw [List.findIdx?_eq_some_iff_getElem] at hi
    obtain ⟨hlt, hp, _⟩ := hi
    have : i = j := by simpa using h
    subst this
    rw [List.getElem?_eq_getElem hlt] at hx
    simp only [Option.some.injEq] at hx
    subst hx
    unfold findB at hp
    simp only [Bool.and_eq_true, bne_iff_ne] at hp
    simp [isOut, hp.1]
  · next hn => rw [hn] at h0; simp at h0
theorem named_set {ls : List Ln} {bs : List Bool} (hb : named ls bs) {p : ByteArray} (h0 : 0 ≤ findF ls p) : named ls (bs.set (findF ls p).toNat true) := by
  intro j x hj hx
  by_cases he : (findF ls p).toNat = j
  · exact find_named he h0 hx
  · refine hb j x ?_ hx
    rw [List.getD_eq_getElem?_getD, List.getElem?_set_ne he] at hj
    rwa [List.getD_eq_getElem?_getD]
theorem named_markP {ls : List Ln} : ∀ {ps : List ByteArray} {bs : List Bool}, named ls bs → (∀ p ∈ ps, 0 ≤ findF ls p) → named ls (markP ls bs ps)
  | [], bs, h, _ => h
  | p :: ps, bs, h, hp => by
    show named ls (markP ls (bs.set _ true) ps)
    exact named_markP (named_set h (hp p (by simp))) fun q hq => hp q (by simp [hq])
theorem named_nd {ls : List Ln} (hg : laGoodF ls = true) : ∀ t, named ls (ndL ls t)
  | 0 => by
    intro j x hj _
    exfalso
    simp only [ndL, List.getD_eq_getElem?_getD, List.getElem?_replicate] at hj
    split at hj <;> simp at hj
  | t + 1 => by
    have ih := named_nd hg t
    rw [ndL]
    unfold stepN
    split
    · exact ih
    · next x hx =>
      split
      · exact named_markP ih fun p hp => (good_part hg hx hp).1
      · exact ih
/-- The reference's list behind some lines: lines from i on that are results are marked besides. -/
def mixL (ls : List Ln) (bs : List Bool) (i : Nat) : List Bool := (List.range ls.length).map fun j => bs.getD j false || (decide (i ≤ j) && (ls[j]?.map isOut).getD false)
theorem mixL_length (ls : List Ln) (bs : List Bool) (i : Nat) : (mixL ls bs i).length = ls.length := by simp [mixL]
theorem mixL_get {ls : List Ln} {bs : List Bool} {i j : Nat} (hj : j < ls.length) : (mixL ls bs i)[j]? = some (bs.getD j false || (decide (i ≤ j) && (ls[j]?.map isOut).getD false)) := by simp [mixL, hj]
theorem mixL_full (ls : List Ln) : mixL ls (List.replicate ls.length false) ls.length = List.replicate ls.length false := by
  apply List.ext_getElem?
  intro j
  by_cases hj : j < ls.length
  · rw [mixL_get hj, List.getElem?_replicate, if_pos hj]
    simp [List.getD_eq_getElem?_getD, List.getElem?_replicate, hj, show ¬ ls.length ≤ j by omega]
  · rw [List.getElem?_eq_none (by rw [mixL_length]; omega), List.getElem?_eq_none (by simp; omega)]
theorem mixL_set {ls : List Ln} {bs : List Bool} {i f : Nat} (hb : bs.length = ls.length) (hf : f < ls.length) : (mixL ls bs i).set f true = mixL ls (bs.set f true) i := by
  apply List.ext_getElem?
  intro j
  by_cases hj : j < ls.length
  · rw [mixL_get hj, List.getElem?_set, List.getD_eq_getElem?_getD, List.getElem?_set]
    by_cases he : f = j
    · subst he
      rw [if_pos rfl, if_pos (by rw [mixL_length]; exact hf), if_pos rfl, if_pos (by omega)]
      simp
    · rw [if_neg he, if_neg he, mixL_get hj, List.getD_eq_getElem?_getD]
  · rw [List.getElem?_eq_none (by simp [mixL_length]; omega), List.getElem?_eq_none (by rw [mixL_length]; omega)]
theorem mixL_here {ls : List Ln} {bs : List Bool} {i : Nat} {x : Ln} (hi : i < ls.length) (hx : ls[i]? = some x) : (mixL ls bs (i + 1)).set i (bs.getD i false || isOut x) = mixL ls bs i := by
  apply List.ext_getElem?
  intro j
  by_cases hj : j < ls.length
  · rw [mixL_get hj, List.getElem?_set]
    by_cases he : i = j
    · subst he
      rw [if_pos rfl, if_pos (by rw [mixL_length]; exact hi), hx]
      simp
    · rw [if_neg he, mixL_get hj]
      have : decide (i + 1 ≤ j) = decide (i ≤ j) := by simp; omega
      rw [this]
  · rw [List.getElem?_eq_none (by simp [mixL_length]; omega), List.getElem?_eq_none (by rw [mixL_length]; omega)]
/-- The names of the marked lines. -/
def namesL (ls : List Ln) (bs : List Bool) : List ByteArray := ((ls.zip bs).filter fun x => x.2).map (·.1.name)
theorem namesL_step {ls : List Ln} {bs : List Bool} {k : Nat} {l : Ln} {v : Bool} (h : ls[k]? = some l) (hv : bs[k]? = some v) (hk : k ≤ ls.length) (hk2 : k ≤ bs.length) : namesL (ls.take (k + 1)) (bs.take (k + 1)) = namesL (ls.take k) (bs.take k) ++ (if v = true then [l.name] else []) := by
  unfold namesL
  rw [List.take_add_one, h, List.take_add_one, hv, List.zip_append (by simp; omega), List.filter_append, List.map_append]
  congr 1
  cases hb : v
  · simp [hb]
  · simp [hb]
def namesF (ls : List Ln) : List ByteArray × Bool := if laGoodF ls = true then (namesL ls (ndL ls ls.length), true) else ([], false)
end Go.Proofs.Ytdlddkgmjpmenaa
/-
  The language: which lines results are made of: the program and the reference walked.
-/
namespace Go.Proofs.Ytdlddkgmjpmenaa
open Go.RowKit
set_option linter.unusedVariables false
set_option linter.unusedSimpArgs false

def RetNd (bs : List Bool) (n : Nat) (w : World) (e : Ending) (w' : World) : Prop := ∃ g, e = .returned (.slice (some ⟨g, 0, none⟩) n n) ∧ OwnB w.heap.size w' (some ⟨g, 0, none⟩) n n bs ∧ Below w.heap.size w w'
theorem row_ltB {w : World} {B g n : Nat} {cs : List Value} (h : w.ownsRow B 4 1 (.slice (some ⟨g, 0, none⟩) n n) n cs) : g < w.heap.size := by
  rcases h.2 with ⟨h0, _⟩ | ⟨g', cap', cur, hv, _, hb, _⟩
  · cases h0
  · cases hv
    exact (Array.getElem?_eq_some_iff.1 hb).1
theorem OwnB.drewN {B : Nat} {w : World} {ao : Option Addr} {n cap : Nat} {bs : List Bool} (h : OwnB B w ao n cap bs) (k : Nat) : OwnB B (w.drewN k) ao n cap bs := h
theorem below_setB {B g n : Nat} {w w' : World} {bs : List Bool} (hb : Below B w w') (ho : OwnB B w' (some ⟨g, 0, none⟩) n n bs) {k : Nat} (hk : k < n) (v : Bool) (hB : B ≤ w'.heap.size) : Below B w (w'.setCell ⟨g, k, none⟩ (.bool v)) :=
  hb.grown (ho.set hk v).2.1 hB fun q hq => (ho.rowLt q hq).1
set_option maxRecDepth 20000 in
set_option maxHeartbeats 8000000 in
theorem needed_any (w : World) (ao : Option Addr) (n c : Nat) (ls : List Ln) (h : Lns w w.heap.size ao n ls) (hg : laGoodF ls = true) :
    Calls Try.prog 22 #[.slice ao n c] w (RetNd (ndL ls n) n w) := by
  have hn := h.le
  have h30 : n ≤ 30 := by
    have hg2 := hg
    unfold laGoodF at hg2
    rw [Bool.and_eq_true] at hg2
    have := h.1
    have h3 : ls.length ≤ 30 := by simpa using hg2.1
    omega
  have hl := Lib.hid h.1
  have HG := Lib.hid hg
  have HFA := Lib.hid (fun p => find_agree ((widths_good ls).2 hg).2.2.2 p)
  obtain ⟨i0, hi, hz0, hz1, hz2⟩ := info_parts bool_info
  clear hg
  go_enter Try.func22, Try.ntmps22
  go_wp2_with (at_make; refine wpList_make_full _ rfl _ _ 51 rfl w.heap.size 4 i0 (.bool false) 1 Try.underlying51 hi hz0 hz1 _ _ _ _ n rfl rfl rfl rfl (by rw [hz2]; omega) (by unfold maxLen; omega) (Nat.le_refl _) ?_; intro w2 hown2 hg2)
  have hlt2 := row_ltB hown2
  have hrow2 := made_bools hn hown2
  have hb2 : Below w.heap.size w w2 := (Below.refl _ _).grown hg2 (Nat.le_refl _) (by simp)
  clear hown2 hg2
  rw [show List.replicate n false = ndL ls 0 from by rw [ndL, hl.out]] at hrow2
  go_loopw [4] (fun i wr => ∃ (t : Nat) (iv : Int), t ≤ n ∧ iv + t + 1 = n ∧ i = .int .i64 iv ∧ OwnB w.heap.size wr (some ⟨w.heap.size, 0, none⟩) n n (ndL ls t) ∧ Below w.heap.size w wr) (fun i _ => (intOf i + 1).toNat)
  case atStart => exact ⟨0, (n : Int) - 1, Nat.zero_le _, by omega, rfl, hrow2, hb2⟩
  case round =>
    obtain ⟨t, iv, ht, hiv, rfl, hob, hbel⟩ := hrel
    by_cases hlt : 0 ≤ iv
    · obtain ⟨q, rfl⟩ := Int.eq_ofNat_of_zero_le hlt
      have hqn : q < n := by omega
      obtain ⟨b, o, l, pa, pc, rfl, hb, hx, hps, g0, g1, g2, g3, g4, g5, g6⟩ := (h.below hbel (Nat.le_refl _)).at hqn
      have hpl := hps.le
      have HST : Hid (ndL ls (t + 1) = if (isOut l || (ndL ls t).getD q false) = true then markP ls (ndL ls t) l.parts else ndL ls t) := by
        show _ = _
        rw [ndL, show ls.length - 1 - t = q from by rw [hl.out]; omega]
        unfold stepN
        rw [hx]
      have HGP := Lib.hid (fun p hp => good_part (p := p) HG.out hx hp)
      obtain ⟨bs, hbs⟩ : ∃ bs, bs = ndL ls t := ⟨_, rfl⟩
      rw [← hbs] at hob HST
      have hcell := (hob.set hqn true).2.2.2
      have hfr := (hob.set hqn true).2.2.1
      clear hx hbs
      cases k6 : (l.kind == 6)
      · have hio : isOut l = false := k6
        have b6 : (l.kind != 6) = true := by simp only [bne, k6]; rfl
        obtain ⟨v, hv⟩ : ∃ v, v = bs.getD q false := ⟨_, rfl⟩
        rw [← hv] at hcell HST
        cases v
        · have HST2 : Hid (ndL ls (t + 1) = bs) := by show _ = _; rw [HST.out, hio]; rfl
          have HOB := Lib.hid hob
          clear hv hio hob
          go_wp2_with fail
          go_roundw
          case rel => exact ⟨t + 1, (q : Int) - 1, by omega, by omega, by go_num, by rw [HST2.out]; exact HOB.out, hbel⟩
          case measure => simp [intOf] <;> omega
        · have HST2 : Hid (ndL ls (t + 1) = markP ls bs l.parts) := by show _ = _; rw [HST.out, hio]; rfl
          have HOB := Lib.hid hob
          clear hv hio hob
          go_wp2_with fail
          go_loopw [36] (fun idx wq => ∃ m : Nat, m ≤ l.parts.length ∧ idx = .int .i64 m ∧ OwnB w.heap.size wq (some ⟨w.heap.size, 0, none⟩) n n (markP ls bs (l.parts.take m)) ∧ Strs wq w.heap.size pa l.parts.length l.parts ∧ Below w.heap.size w wq) (fun idx _ => l.parts.length - (intOf idx).toNat)
          case atStart => exact ⟨0, Nat.zero_le _, rfl, HOB.out, hps, hbel⟩
          case round =>
            obtain ⟨m, hm, rfl, hobq, hpsq, hbq⟩ := hrel
            by_cases hltm : m < l.parts.length
            · obtain ⟨b9, o9, p, rfl, hb9, hxp, q9⟩ := hpsq.at hltm
              have HMS := Lib.hid (markP_snoc (ls := ls) (bs := bs) hxp)
              obtain ⟨hf0, hf1⟩ := HGP.out p (List.mem_of_getElem? hxp)
              have hLq := h.below hbq (Nat.le_refl _)
              clear hxp
              go_wp2_with fail
              refine (lineOf_any _ _ _ _ _ _ p hLq hbq.size).mono ?_
              rintro e w5 ⟨rfl, hb5⟩
              rw [← HFA.out p]
              obtain ⟨f, hf⟩ := Int.eq_ofNat_of_zero_le hf0
              have hfn : f < n := by rw [← hl.out]; omega
              have hob5 := hobq.below hb5 (Nat.le_refl _)
              have hps5 := hpsq.below hb5 hbq.size
              have hbw5 := hbq.trans (hb5.mono hbq.size)
              obtain ⟨hs1, hs2, hs3, hs4⟩ := hob5.set hfn true
              have hbw6 := below_setB hbw5 hob5 hfn true hbw5.size
              have HMS2 : Hid (markP ls bs (l.parts.take (m + 1)) = (markP ls bs (l.parts.take m)).set f true) := by show _ = _; rw [HMS.out, hf]; rfl
              have HS1 := Lib.hid hs1
              have HPS6 := Lib.hid (show Strs (w5.setCell ⟨w.heap.size, f, none⟩ (.bool true)) w.heap.size (some ⟨b9, o9, none⟩) l.parts.length l.parts from hps5.below (below_setB (Below.refl w.heap.size w5) hob5 hfn true hbw5.size) (Nat.le_refl _))
              rw [hf]
              have hfi : (f : Int) < n := by omega
              clear hf hf0 hf1 hs1 hs2
              go_wp2_with fail
              go_roundw
              case rel => exact ⟨m + 1, by omega, by go_num, by rw [HMS2.out]; exact HS1.out, HPS6.out, hbw6⟩
              case measure => simp [intOf] <;> omega
            · obtain rfl : m = l.parts.length := by omega
              rw [List.take_length] at hobq
              go_wp2_with fail
              go_roundw
              case rel => exact ⟨t + 1, (q : Int) - 1, by omega, by omega, by go_num, by rw [HST2.out]; exact hobq, hbq⟩
              case measure => simp [intOf] <;> omega
      · have HST2 : Hid (ndL ls (t + 1) = markP ls bs l.parts) := by show _ = _; rw [HST.out, show isOut l = true from k6]; rfl
        have b6 : (l.kind != 6) = false := by simp only [bne, k6]; rfl
        have HOB := Lib.hid hob
        clear hob
        go_wp2_with fail
        go_loopw [36] (fun idx wq => ∃ m : Nat, m ≤ l.parts.length ∧ idx = .int .i64 m ∧ OwnB w.heap.size wq (some ⟨w.heap.size, 0, none⟩) n n (markP ls bs (l.parts.take m)) ∧ Strs wq w.heap.size pa l.parts.length l.parts ∧ Below w.heap.size w wq) (fun idx _ => l.parts.length - (intOf idx).toNat)
        case atStart => exact ⟨0, Nat.zero_le _, rfl, HOB.out, hps, hbel⟩
        case round =>
          obtain ⟨m, hm, rfl, hobq, hpsq, hbq⟩ := hrel
          by_cases hltm : m < l.parts.length
          · obtain ⟨b9, o9, p, rfl, hb9, hxp, q9⟩ := hpsq.at hltm
            have HMS := Lib.hid (markP_snoc (ls := ls) (bs := bs) hxp)
            obtain ⟨hf0, hf1⟩ := HGP.out p (List.mem_of_getElem? hxp)
            have hLq := h.below hbq (Nat.le_refl _)
            clear hxp
            go_wp2_with fail
            refine (lineOf_any _ _ _ _ _ _ p hLq hbq.size).mono ?_
            rintro e w5 ⟨rfl, hb5⟩
            rw [← HFA.out p]
            obtain ⟨f, hf⟩ := Int.eq_ofNat_of_zero_le hf0
            have hfn : f < n := by rw [← hl.out]; omega
            have hob5 := hobq.below hb5 (Nat.le_refl _)
            have hps5 := hpsq.below hb5 hbq.size
            have hbw5 := hbq.trans (hb5.mono hbq.size)
            obtain ⟨hs1, hs2, hs3, hs4⟩ := hob5.set hfn true
            have hbw6 := below_setB hbw5 hob5 hfn true hbw5.size
            have HMS2 : Hid (markP ls bs (l.parts.take (m + 1)) = (markP ls bs (l.parts.take m)).set f true) := by show _ = _; rw [HMS.out, hf]; rfl
            have HS1 := Lib.hid hs1
            have HPS6 := Lib.hid (show Strs (w5.setCell ⟨w.heap.size, f, none⟩ (.bool true)) w.heap.size (some ⟨b9, o9, none⟩) l.parts.length l.parts from hps5.below (below_setB (Below.refl w.heap.size w5) hob5 hfn true hbw5.size) (Nat.le_refl _))
            rw [hf]
            have hfi : (f : Int) < n := by omega
            clear hf hf0 hf1 hs1 hs2
            go_wp2_with fail
            go_roundw
            case rel => exact ⟨m + 1, by omega, by go_num, by rw [HMS2.out]; exact HS1.out, HPS6.out, hbw6⟩
            case measure => simp [intOf] <;> omega
          · obtain rfl : m = l.parts.length := by omega
            rw [List.take_length] at hobq
            go_wp2_with fail
            go_roundw
            case rel => exact ⟨t + 1, (q : Int) - 1, by omega, by omega, by go_num, by rw [HST2.out]; exact hobq, hbq⟩
            case measure => simp [intOf] <;> omega
    · obtain rfl : t = n := by omega
      go_wp2_with fail
      go_ret
      exact ⟨_, rfl, hob, hbel⟩
end Go.Proofs.Ytdlddkgmjpmenaa
/-
  The language: which lines results are made of: the reference walked.
-/
namespace Go.Proofs.Ytdlddkgmjpmenaa
open Go.RowKit
set_option linter.unusedVariables false
set_option linter.unusedSimpArgs false

theorem mixL_at {ls : List Ln} {bs : List Bool} {i : Nat} {x : Ln} (hi : i < ls.length) (hx : ls[i]? = some x) : (mixL ls bs i).getD i false = (bs.getD i false || isOut x) := by
  rw [List.getD_eq_getElem?_getD, mixL_get hi, hx]; simp
theorem mixL_next {ls : List Ln} {bs : List Bool} {i : Nat} (hi : i < ls.length) : (mixL ls bs (i + 1)).getD i false = bs.getD i false := by
  rw [List.getD_eq_getElem?_getD, mixL_get hi]; simp
  intro h; omega
theorem set_keeps {bs : List Bool} {f q : Nat} {c : Bool} (h : (bs.getD q false || c) = true) : ((bs.set f true).getD q false || c) = true := by
  by_cases he : f = q
  · subst he
    by_cases hl : f < bs.length
    · rw [List.getD_eq_getElem?_getD, List.getElem?_set, if_pos rfl, if_pos hl]; rfl
    · rw [List.set_eq_of_length_le (by omega)]; exact h
  · rw [List.getD_eq_getElem?_getD, List.getElem?_set_ne he, ← List.getD_eq_getElem?_getD]; exact h
set_option maxRecDepth 20000 in
set_option maxHeartbeats 8000000 in
theorem laNeeded_any (w : World) (ao : Option Addr) (n c : Nat) (ls : List Ln) (h : Lns w w.heap.size ao n ls) (hg : laGoodF ls = true) :
    Calls Try.prog 25 #[.slice ao n c] w (RetNd (mixL ls (ndL ls n) 0) n w) := by
  have hn := h.le
  have h30 : n ≤ 30 := by
    have hg2 := hg
    unfold laGoodF at hg2
    rw [Bool.and_eq_true] at hg2
    have := h.1
    have h3 : ls.length ≤ 30 := by simpa using hg2.1
    omega
  have hl := Lib.hid h.1
  have HG := Lib.hid hg
  have HFA := Lib.hid (fun p => find_agree ((widths_good ls).2 hg).2.2.2 p)
  obtain ⟨i0, hi, hz0, hz1, hz2⟩ := info_parts bool_info
  clear hg
  go_enter Try.func25, Try.ntmps25
  go_wp2_with (at_make; refine wpList_make_full _ rfl _ _ 51 rfl w.heap.size 4 i0 (.bool false) 1 Try.underlying51 hi hz0 hz1 _ _ _ _ n rfl rfl rfl rfl (by rw [hz2]; omega) (by unfold maxLen; omega) (Nat.le_refl _) ?_; intro w2 hown2 hg2)
  have hlt2 := row_ltB hown2
  have hrow2 := made_bools hn hown2
  have hb2 : Below w.heap.size w w2 := (Below.refl _ _).grown hg2 (Nat.le_refl _) (by simp)
  clear hown2 hg2
  rw [show List.replicate n false = mixL ls (ndL ls 0) n from by rw [ndL, ← hl.out, mixL_full]] at hrow2
  go_loopw [4] (fun i wr => ∃ (t : Nat) (iv : Int), t ≤ n ∧ iv + t + 1 = n ∧ i = .int .i64 iv ∧ OwnB w.heap.size wr (some ⟨w.heap.size, 0, none⟩) n n (mixL ls (ndL ls t) (iv + 1).toNat) ∧ Below w.heap.size w wr) (fun i _ => (intOf i + 1).toNat)
  case atStart => exact ⟨0, (n : Int) - 1, Nat.zero_le _, by omega, rfl, by rw [show ((n : Int) - 1 + 1).toNat = n from by omega]; exact hrow2, hb2⟩
  case round =>
    obtain ⟨t, iv, ht, hiv, rfl, hob, hbel⟩ := hrel
    by_cases hlt : 0 ≤ iv
    · obtain ⟨q, rfl⟩ := Int.eq_ofNat_of_zero_le hlt
      have hqn : q < n := by omega
      obtain ⟨b, o, l, pa, pc, rfl, hb, hx, hps, g0, g1, g2, g3, g4, g5, g6⟩ := (h.below hbel (Nat.le_refl _)).at hqn
      have hpl := hps.le
      have HST : Hid (ndL ls (t + 1) = if (isOut l || (ndL ls t).getD q false) = true then markP ls (ndL ls t) l.parts else ndL ls t) := by
        show _ = _
        rw [ndL, show ls.length - 1 - t = q from by rw [hl.out]; omega]
        unfold stepN
        rw [hx]
      have HGP := Lib.hid (fun p hp => good_part (p := p) HG.out hx hp)
      have HBL := Lib.hid (ndL_length ls t)
      obtain ⟨bs, hbs⟩ : ∃ bs, bs = ndL ls t := ⟨_, rfl⟩
      rw [← hbs] at hob HST HBL
      rw [show ((q : Int) + 1).toNat = q + 1 from by omega] at hob
      have hql : q < ls.length := by rw [hl.out]; exact hqn
      have hcell := (hob.set hqn true).2.2.2
      rw [mixL_next hql] at hcell
      have hfr := (hob.set hqn true).2.2.1
      have hst : ∀ u : Bool, u = (bs.getD q false || isOut l) → OwnB w.heap.size (wr.setCell ⟨w.heap.size, q, none⟩ (.bool u)) (some ⟨w.heap.size, 0, none⟩) n n (mixL ls bs q) ∧ Below w.heap.size w (wr.setCell ⟨w.heap.size, q, none⟩ (.bool u)) ∧ Strs (wr.setCell ⟨w.heap.size, q, none⟩ (.bool u)) w.heap.size pa l.parts.length l.parts ∧ (wr.setCell ⟨w.heap.size, q, none⟩ (.bool u)).cell? ⟨b, o + q * 7 + 3, none⟩ = some (.slice pa l.parts.length pc) := by
        intro u hu
        have h1 := (hob.set hqn u).1
        rw [hu, mixL_here hql hx, ← hu] at h1
        have h2 := below_setB (Below.refl w.heap.size wr) hob hqn u hbel.size
        exact ⟨h1, below_setB hbel hob hqn u hbel.size, hps.below h2 (Nat.le_refl _), (h2.cell (p := ⟨b, o + q * 7 + 3, none⟩) hb).trans g3⟩
      have HSTO := Lib.hid hst
      have HXX := Lib.hid hx
      clear hx hbs hob hst
      obtain ⟨v, hv⟩ : ∃ v, v = bs.getD q false := ⟨_, rfl⟩
      rw [← hv] at hcell
      have HV := Lib.hid hv
      clear hv
      cases v
      · cases k6 : (l.kind == 6)
        · have hio : isOut l = false := k6
          obtain ⟨hob7, hbw7, hps7, hd7⟩ := HSTO.out false (by rw [← HV.out, hio]; rfl)
          have HST2 : Hid (ndL ls (t + 1) = bs) := by show _ = _; rw [HST.out, hio, ← HV.out]; rfl
          have HNO : Hid ((mixL ls bs q).getD q false = false) := by show _ = _; rw [mixL_at hql HXX.out, ← HV.out, hio]; rfl
          obtain ⟨W7, hW7⟩ : ∃ W7, W7 = wr.setCell ⟨w.heap.size, q, none⟩ (.bool false) := ⟨_, rfl⟩
          rw [← hW7] at hob7 hbw7 hps7 hd7
          have HW7 := Lib.hid hW7
          clear hio hW7
          go_wp2_with (rw [← HW7.out])
          go_loopw [38] (fun idx wq => ∃ m : Nat, m ≤ l.parts.length ∧ idx = .int .i64 m ∧ OwnB w.heap.size wq (some ⟨w.heap.size, 0, none⟩) n n (mixL ls bs q) ∧ Strs wq w.heap.size pa l.parts.length l.parts ∧ Below w.heap.size w wq) (fun idx _ => l.parts.length - (intOf idx).toNat)
          case atStart => exact ⟨0, Nat.zero_le _, rfl, hob7, hps7, hbw7⟩
          case round =>
            obtain ⟨m, hm, rfl, hobq, hpsq, hbq⟩ := hrel
            by_cases hltm : m < l.parts.length
            · obtain ⟨b9, o9, p, rfl, hb9, hxp, q9⟩ := hpsq.at hltm
              have hcq := (hobq.set hqn true).2.2.2
              rw [HNO.out] at hcq
              clear hxp
              go_wp2_with fail
              go_roundw
              case rel => exact ⟨m + 1, by omega, by go_num, hobq, hpsq, hbq⟩
              case measure => simp [intOf] <;> omega
            · obtain rfl : m = l.parts.length := by omega
              go_wp2_with fail
              go_roundw
              case rel => exact ⟨t + 1, (q : Int) - 1, by omega, by omega, by go_num, by rw [HST2.out, show ((q : Int) - 1 + 1).toNat = q from by omega]; exact hobq, hbq⟩
              case measure => simp [intOf] <;> omega
        · have hio : isOut l = true := k6
          have HTR : Hid ((bs.getD q false || isOut l) = true) := by show _ = _; rw [hio]; simp
          obtain ⟨hob7, hbw7, hps7, hd7⟩ := HSTO.out true HTR.out.symm
          have HST2 : Hid (ndL ls (t + 1) = markP ls bs l.parts) := by show _ = _; rw [HST.out, hio]; rfl
          clear hio
          obtain ⟨W7, hW7⟩ : ∃ W7, W7 = wr.setCell ⟨w.heap.size, q, none⟩ (.bool true) := ⟨_, rfl⟩
          rw [← hW7] at hob7 hbw7 hps7 hd7
          have HW7 := Lib.hid hW7
          clear hW7
          go_wp2_with (rw [← HW7.out])
          go_loopw [38] (fun idx wq => ∃ m : Nat, m ≤ l.parts.length ∧ idx = .int .i64 m ∧ OwnB w.heap.size wq (some ⟨w.heap.size, 0, none⟩) n n (mixL ls (markP ls bs (l.parts.take m)) q) ∧ Hid (((markP ls bs (l.parts.take m)).getD q false || isOut l) = true) ∧ Hid ((markP ls bs (l.parts.take m)).length = ls.length) ∧ Strs wq w.heap.size pa l.parts.length l.parts ∧ Below w.heap.size w wq) (fun idx _ => l.parts.length - (intOf idx).toNat)
          case atStart => exact ⟨0, Nat.zero_le _, rfl, hob7, HTR.out, HBL.out, hps7, hbw7⟩
          case round =>
            obtain ⟨m, hm, rfl, hobq, HTQ, HLQ, hpsq, hbq⟩ := hrel
            by_cases hltm : m < l.parts.length
            · obtain ⟨b9, o9, p, rfl, hb9, hxp, q9⟩ := hpsq.at hltm
              have HMS := Lib.hid (markP_snoc (ls := ls) (bs := bs) hxp)
              obtain ⟨hf0, hf1⟩ := HGP.out p (List.mem_of_getElem? hxp)
              have hLq := h.below hbq (Nat.le_refl _)
              have hcq := (hobq.set hqn true).2.2.2
              rw [mixL_at hql HXX.out, HTQ.out] at hcq
              clear hxp
              go_wp2_with fail
              refine (laFind_any _ _ _ _ _ _ p hLq hbq.size).mono ?_
              rintro e w5 ⟨rfl, hb5⟩
              obtain ⟨f, hf⟩ := Int.eq_ofNat_of_zero_le hf0
              have hfn : f < n := by rw [← hl.out]; omega
              have hob5 := hobq.below hb5 (Nat.le_refl _)
              have hps5 := hpsq.below hb5 hbq.size
              have hbw5 := hbq.trans (hb5.mono hbq.size)
              obtain ⟨hs1, hs2, hs3, hs4⟩ := hob5.set hfn true
              rw [mixL_set HLQ.out (by rw [hl.out]; exact hfn)] at hs1
              have hbw6 := below_setB hbw5 hob5 hfn true hbw5.size
              have HMS2 : Hid (markP ls bs (l.parts.take (m + 1)) = (markP ls bs (l.parts.take m)).set f true) := by show _ = _; rw [HMS.out, hf]; rfl
              have HS1 := Lib.hid hs1
              have HPS6 := Lib.hid (show Strs (w5.setCell ⟨w.heap.size, f, none⟩ (.bool true)) w.heap.size (some ⟨b9, o9, none⟩) l.parts.length l.parts from hps5.below (below_setB (Below.refl w.heap.size w5) hob5 hfn true hbw5.size) (Nat.le_refl _))
              rw [hf]
              have hfi : (f : Int) < n := by omega
              clear hf hf0 hf1 hs1 hs2 hcq
              go_wp2_with fail
              go_roundw
              case rel => exact ⟨m + 1, by omega, by go_num, by rw [HMS2.out]; exact HS1.out, by rw [HMS2.out]; exact set_keeps HTQ.out, by rw [HMS2.out, List.length_set]; exact HLQ.out, HPS6.out, hbw6⟩
              case measure => simp [intOf] <;> omega
            · obtain rfl : m = l.parts.length := by omega
              rw [List.take_length] at hobq
              go_wp2_with fail
              go_roundw
              case rel => exact ⟨t + 1, (q : Int) - 1, by omega, by omega, by go_num, by rw [HST2.out, show ((q : Int) - 1 + 1).toNat = q from by omega]; exact hobq, hbq⟩
              case measure => simp [intOf] <;> omega
      · have HTR : Hid ((bs.getD q false || isOut l) = true) := by show _ = _; rw [← HV.out]; rfl
        obtain ⟨hob7, hbw7, hps7, hd7⟩ := HSTO.out true HTR.out.symm
        have HST2 : Hid (ndL ls (t + 1) = markP ls bs l.parts) := by show _ = _; rw [HST.out, ← HV.out]; simp
        obtain ⟨W7, hW7⟩ : ∃ W7, W7 = wr.setCell ⟨w.heap.size, q, none⟩ (.bool true) := ⟨_, rfl⟩
        rw [← hW7] at hob7 hbw7 hps7 hd7
        have HW7 := Lib.hid hW7
        clear hW7
        go_wp2_with (rw [← HW7.out])
        go_loopw [38] (fun idx wq => ∃ m : Nat, m ≤ l.parts.length ∧ idx = .int .i64 m ∧ OwnB w.heap.size wq (some ⟨w.heap.size, 0, none⟩) n n (mixL ls (markP ls bs (l.parts.take m)) q) ∧ Hid (((markP ls bs (l.parts.take m)).getD q false || isOut l) = true) ∧ Hid ((markP ls bs (l.parts.take m)).length = ls.length) ∧ Strs wq w.heap.size pa l.parts.length l.parts ∧ Below w.heap.size w wq) (fun idx _ => l.parts.length - (intOf idx).toNat)
        case atStart => exact ⟨0, Nat.zero_le _, rfl, hob7, HTR.out, HBL.out, hps7, hbw7⟩
        case round =>
          obtain ⟨m, hm, rfl, hobq, HTQ, HLQ, hpsq, hbq⟩ := hrel
          by_cases hltm : m < l.parts.length
          · obtain ⟨b9, o9, p, rfl, hb9, hxp, q9⟩ := hpsq.at hltm
            have HMS := Lib.hid (markP_snoc (ls := ls) (bs := bs) hxp)
            obtain ⟨hf0, hf1⟩ := HGP.out p (List.mem_of_getElem? hxp)
            have hLq := h.below hbq (Nat.le_refl _)
            have hcq := (hobq.set hqn true).2.2.2
            rw [mixL_at hql HXX.out, HTQ.out] at hcq
            clear hxp
            go_wp2_with fail
            refine (laFind_any _ _ _ _ _ _ p hLq hbq.size).mono ?_
            rintro e w5 ⟨rfl, hb5⟩
            obtain ⟨f, hf⟩ := Int.eq_ofNat_of_zero_le hf0
            have hfn : f < n := by rw [← hl.out]; omega
            have hob5 := hobq.below hb5 (Nat.le_refl _)
            have hps5 := hpsq.below hb5 hbq.size
            have hbw5 := hbq.trans (hb5.mono hbq.size)
            obtain ⟨hs1, hs2, hs3, hs4⟩ := hob5.set hfn true
            rw [mixL_set HLQ.out (by rw [hl.out]; exact hfn)] at hs1
            have hbw6 := below_setB hbw5 hob5 hfn true hbw5.size
            have HMS2 : Hid (markP ls bs (l.parts.take (m + 1)) = (markP ls bs (l.parts.take m)).set f true) := by show _ = _; rw [HMS.out, hf]; rfl
            have HS1 := Lib.hid hs1
            have HPS6 := Lib.hid (show Strs (w5.setCell ⟨w.heap.size, f, none⟩ (.bool true)) w.heap.size (some ⟨b9, o9, none⟩) l.parts.length l.parts from hps5.below (below_setB (Below.refl w.heap.size w5) hob5 hfn true hbw5.size) (Nat.le_refl _))
            rw [hf]
            have hfi : (f : Int) < n := by omega
            clear hf hf0 hf1 hs1 hs2 hcq
            go_wp2_with fail
            go_roundw
            case rel => exact ⟨m + 1, by omega, by go_num, by rw [HMS2.out]; exact HS1.out, by rw [HMS2.out]; exact set_keeps HTQ.out, by rw [HMS2.out, List.length_set]; exact HLQ.out, HPS6.out, hbw6⟩
            case measure => simp [intOf] <;> omega
          · obtain rfl : m = l.parts.length := by omega
            rw [List.take_length] at hobq
            go_wp2_with fail
            go_roundw
            case rel => exact ⟨t + 1, (q : Int) - 1, by omega, by omega, by go_num, by rw [HST2.out, show ((q : Int) - 1 + 1).toNat = q from by omega]; exact hobq, hbq⟩
            case measure => simp [intOf] <;> omega
    · obtain rfl : t = n := by omega
      obtain rfl : iv = -1 := by omega
      go_wp2_with fail
      go_ret
      exact ⟨_, rfl, hob, hbel⟩
end Go.Proofs.Ytdlddkgmjpmenaa
/-
  The language: the names that results are made of, both ways.
-/
namespace Go.Proofs.Ytdlddkgmjpmenaa
open Go.RowKit
set_option linter.unusedVariables false
set_option linter.unusedSimpArgs false

/-- 'append' of one text. -/
theorem wpList_append_s {w : World} {ops : Array Oper} {rest : List Oper} {o : Oper} {a : Act} {Q : Exit → Act → World → Prop} (hgd : o.guard = none) (s x : Operand)
    (ho : o.op = .call { callee := .builtin .append, args := #[s, x], argTypes := #[32, 32] })
    (B : Nat) (ao : Option Addr) (n cap : Nat) (ss : List ByteArray) (u : ByteArray) (hs : a.eval s = .slice ao n cap) (hx : a.eval x = .slice (some ⟨w.heap.size, 0, none⟩) 1 1)
    (hown : OwnSt B w ao n cap ss) (hn : n < 999999990) (hB : B ≤ w.heap.size)
    (h : ∀ ao' cap' w', OwnSt B w' ao' (n + 1) cap' (ss ++ [u]) → w.grownBy w' (rowOf ao cap) → wpList Try.prog ops Q rest (a.put o.dst (.slice ao' (n + 1) cap')) w') :
    wpList Try.prog ops Q (o :: rest) a (w.alloc (.cells #[.string u] 9)) :=
  wpList_append_new hgd s x 32 9 (.string ⟨#[]⟩) 1 16 Try.underlying32 str_info rfl (by decide) (by decide) ho B ao n cap (ss.map Value.string) 1 1 [.string u] hs hx rfl (by simp [Value.oneCell']) hown.2.2 (by omega) hB
    fun ao' cap' w' h1 h2 => h ao' cap' w' ⟨by simp [hown.1], by omega, by simpa using h1⟩ h2
def RetStB (r : List ByteArray × Bool) (w : World) (e : Ending) (w' : World) : Prop := ∃ ao n cap, e = .returned (.tuple #[.slice ao n cap, .bool r.2]) ∧ OwnSt w.heap.size w' ao n cap r.1 ∧ Below w.heap.size w w'
theorem RetStB.eq {r : List ByteArray × Bool} {ao : Option Addr} {n c : Nat} {xs : List ByteArray} {b : Bool} {w w' : World} (h : r = (xs, b)) (ho : OwnSt w.heap.size w' ao n c xs) (hb : Below w.heap.size w w') : RetStB r w (.returned (.tuple #[.slice ao n c, .bool b])) w' := by
  subst h; exact ⟨_, _, _, rfl, ho, hb⟩
theorem good_len2 {ls : List Ln} (hg : laGoodF ls = true) : ls.length ≤ 30 := by
  unfold laGoodF at hg
  rw [Bool.and_eq_true] at hg
  simpa using hg.1
set_option maxRecDepth 20000 in
set_option maxHeartbeats 8000000 in
theorem impl_NeededNames_any (w : World) (ao : Option Addr) (n c : Nat) (ls : List Ln) (h : Lns w w.heap.size ao n ls) (hs : okS ls) (hnc : n ≤ c) :
    Calls Try.prog 10 #[.slice ao n c] w (RetStB (namesF ls) w) := by
  have hn := h.le
  have hl := Lib.hid h.1
  cases hg : laGoodF ls
  · have HF : Hid (namesF ls = ([], false)) := by show _ = _; unfold namesF; rw [hg]; simp
    have HG := Lib.hid hg
    clear hg
    go_enter Try.func10, Try.ntmps10
    go_wp2_with fail
    refine (impl_IsProgram_any _ _ _ _ _ h hs hnc).mono ?_
    rintro e w1 ⟨rfl, hb1⟩
    rw [HG.out]
    go_wp2_with fail
    go_ret2
    exact RetStB.eq HF.out (OwnSt.nil _ _ _) hb1
  have HF : Hid (namesF ls = (namesL ls (ndL ls n), true)) := by show _ = _; unfold namesF; rw [if_pos hg, hl.out]
  have h30 := good_len2 hg
  rw [hl.out] at h30
  have HG := Lib.hid hg
  clear hg
  go_enter Try.func10, Try.ntmps10
  go_wp2_with fail
  refine (impl_IsProgram_any _ _ _ _ _ h hs hnc).mono ?_
  rintro e w1 ⟨rfl, hb1⟩
  rw [HG.out]
  obtain ⟨W3, hW3⟩ : ∃ W3, W3 = w1.alloc (.cells #[] 9) := ⟨_, rfl⟩
  have hal3 : Below w1.heap.size w1 W3 := by rw [hW3]; exact (Below.refl _ _).alloc (Nat.le_refl _) _
  have hb3 := hb1.trans (hal3.mono hb1.size)
  have HW3 := Lib.hid hW3
  clear hW3
  go_wp2_with (rw [← HW3.out])
  refine (needed_any _ _ _ _ _ ((h.below hb3 (Nat.le_refl _)).up hb3.size) HG.out).mono ?_
  rintro e w4 ⟨g, rfl, hob, hb4⟩
  obtain ⟨bs, hbs⟩ : ∃ bs, bs = ndL ls n := ⟨_, rfl⟩
  rw [← hbs] at hob HF
  clear hbs
  have hbw4 := hb3.trans (hb4.mono hb3.size)
  have h4 := h.below hbw4 (Nat.le_refl _)
  have HOB := Lib.hid hob
  clear hob
  go_wp2_with fail
  go_loopw [4, 14] (fun out i wr => ∃ (k : Nat) (co : Option Addr) (m cap : Nat), k ≤ n ∧ m ≤ k ∧ i = .int .i64 k ∧ out = .slice co m cap ∧ OwnSt w4.heap.size wr co m cap (namesL (ls.take k) (bs.take k)) ∧ Below w4.heap.size w4 wr) (fun _ i _ => n - (intOf i).toNat)
  case atStart => exact ⟨0, _, 0, 0, Nat.zero_le _, Nat.le_refl _, rfl, rfl, by simpa [namesL] using OwnSt.nil _ _ _, Below.refl _ _⟩
  case round =>
    obtain ⟨k, co, m, cap, hk, hmk, rfl, rfl, hout, hbel⟩ := hrel
    have hbelw := hbw4.trans (hbel.mono hbw4.size)
    by_cases hlt : k < n
    · obtain ⟨b, o, l, pa, pc, rfl, hb, hx, hps, g0, g1, g2, g3, g4, g5, g6⟩ := (h4.below hbel hbw4.size).at hlt
      obtain ⟨v, hv⟩ := getL_at (i := k) HOB.out.1 hlt
      have hgl : g < w4.heap.size := by obtain ⟨g', e1, _, e3⟩ := HOB.out.blk (by omega); simp at e1; omega
      have hcb := (hbel.cell (p := ⟨g, k, none⟩) hgl).trans (HOB.out.cell hv)
      have HS := Lib.hid (namesL_step hx hv (by rw [hl.out]; exact hk) (by rw [HOB.out.1]; exact hk))
      clear hx hv
      cases v
      · have HS2 : Hid (namesL (ls.take (k + 1)) (bs.take (k + 1)) = namesL (ls.take k) (bs.take k)) := by show _ = _; rw [HS.out]; simp
        go_wp2_with fail
        go_roundw
        case rel => exact ⟨k + 1, co, m, cap, by omega, by omega, by go_num, rfl, by rw [HS2.out]; exact hout, hbel⟩
        case measure => simp [intOf] <;> omega
      · have HS2 : Hid (namesL (ls.take (k + 1)) (bs.take (k + 1)) = namesL (ls.take k) (bs.take k) ++ [l.name]) := by show _ = _; rw [HS.out]; simp
        go_wp2_with (at_builtin; refine wpList_append_s rfl _ _ rfl w4.heap.size _ _ _ _ _ rfl (by first | rfl | (simp; rfl)) hout (by omega) hbel.size ?_; intro ao' cap' w6 hown6 hg6)
        have hbr6 := below_append hbel hout.2.2 hg6 hbel.size
        go_roundw
        case rel => exact ⟨k + 1, ao', m + 1, cap', by omega, by omega, by go_num, rfl, by rw [HS2.out]; exact hown6, hbr6⟩
        case measure => simp [intOf] <;> omega
    · obtain rfl : k = n := by omega
      rw [List.take_of_length_le (by rw [hl.out]; exact Nat.le_refl _), List.take_of_length_le (by rw [HOB.out.1]; exact Nat.le_refl _)] at hout
      go_wp2_with fail
      go_ret2
      exact RetStB.eq HF.out (hout.up hbw4.size) hbelw
set_option maxRecDepth 20000 in
set_option maxHeartbeats 8000000 in
theorem spec_NeededNames_any (w : World) (ao : Option Addr) (n c : Nat) (ls : List Ln) (h : Lns w w.heap.size ao n ls) (hs : okS ls) (hn20 : n ≤ 1048576) (hnc : n ≤ c) :
    Calls Try.prog 11 #[.slice ao n c] w (RetStB (namesF ls) w) := by
  have hn := h.le
  have hl := Lib.hid h.1
  cases hg : laGoodF ls
  · have HF : Hid (namesF ls = ([], false)) := by show _ = _; unfold namesF; rw [hg]; simp
    have HG := Lib.hid hg
    clear hg
    go_enter Try.func11, Try.ntmps11
    go_wp2_with fail
    refine (laGood_any _ _ _ _ _ h hs hnc).mono ?_
    rintro e w1 ⟨rfl, hb1⟩
    rw [HG.out]
    go_wp2_with fail
    go_ret2
    exact RetStB.eq HF.out (OwnSt.nil _ _ _) hb1
  have HF : Hid (namesF ls = (namesL ls (ndL ls n), true)) := by show _ = _; unfold namesF; rw [if_pos hg, hl.out]
  have h30 := good_len2 hg
  rw [hl.out] at h30
  have HNM := Lib.hid (named_nd hg n)
  have HBL := Lib.hid (ndL_length ls n)
  have HG := Lib.hid hg
  clear hg
  go_enter Try.func11, Try.ntmps11
  go_wp2_with fail
  refine (laGood_any _ _ _ _ _ h hs hnc).mono ?_
  rintro e w1 ⟨rfl, hb1⟩
  rw [HG.out]
  go_wp2_with fail
  refine (laNeeded_any _ _ _ _ _ ((h.below hb1 (Nat.le_refl _)).up hb1.size) HG.out).mono ?_
  rintro e w4 ⟨g, rfl, hob, hb4⟩
  obtain ⟨bs, hbs⟩ : ∃ bs, bs = ndL ls n := ⟨_, rfl⟩
  rw [← hbs] at hob HF HNM HBL
  clear hbs
  have hbw4 := hb1.trans (hb4.mono hb1.size)
  have h4 := h.below hbw4 (Nat.le_refl _)
  have HOB := Lib.hid hob
  clear hob
  go_wp2_with fail
  go_loopw [4, 13] (fun out i wr => ∃ (k : Nat) (co : Option Addr) (m cap : Nat), k ≤ n ∧ m ≤ k ∧ i = .int .i64 k ∧ out = .slice co m cap ∧ OwnSt w4.heap.size wr co m cap (namesL (ls.take k) (bs.take k)) ∧ Below w4.heap.size w4 wr) (fun _ i _ => n - (intOf i).toNat)
  case atStart => exact ⟨0, _, 0, 0, Nat.zero_le _, Nat.le_refl _, rfl, rfl, by simpa [namesL] using OwnSt.nil _ _ _, Below.refl _ _⟩
  case round =>
    obtain ⟨k, co, m, cap, hk, hmk, rfl, rfl, hout, hbel⟩ := hrel
    have hbelw := hbw4.trans (hbel.mono hbw4.size)
    by_cases hlt : k < n
    · obtain ⟨b, o, l, pa, pc, rfl, hb, hx, hps, g0, g1, g2, g3, g4, g5, g6⟩ := (h4.below hbel hbw4.size).at hlt
      obtain ⟨v, hv⟩ := getL_at (i := k) (HBL.out.trans hl.out) hlt
      have hmv : (mixL ls bs 0)[k]? = some (v || isOut l) := by
        rw [mixL_get (by rw [hl.out]; exact hlt), hx, List.getD_eq_getElem?_getD, hv]; simp
      have hgl : g < w4.heap.size := by obtain ⟨g', e1, _, e3⟩ := HOB.out.blk (by omega); simp at e1; omega
      have hcb := (hbel.cell (p := ⟨g, k, none⟩) hgl).trans (HOB.out.cell hmv)
      have HS := Lib.hid (namesL_step hx hv (by rw [hl.out]; exact hk) (by rw [HBL.out, hl.out]; exact hk))
      have HNV := Lib.hid (fun hvt : v = true => HNM.out k l (by rw [List.getD_eq_getElem?_getD, hv, hvt]; rfl) hx)
      clear hx hv hmv
      cases v
      · have HS2 : Hid (namesL (ls.take (k + 1)) (bs.take (k + 1)) = namesL (ls.take k) (bs.take k)) := by show _ = _; rw [HS.out]; simp
        cases k6 : (l.kind == 6)
        · have hcb2 : wr.cell? ⟨g, k, none⟩ = some (.bool false) := by rw [hcb, show isOut l = false from k6]; rfl
          clear hcb
          go_wp2_with fail
          go_roundw
          case rel => exact ⟨k + 1, co, m, cap, by omega, by omega, by go_num, rfl, by rw [HS2.out]; exact hout, hbel⟩
          case measure => simp [intOf] <;> omega
        · have hcb2 : wr.cell? ⟨g, k, none⟩ = some (.bool true) := by rw [hcb, show isOut l = true from k6]; rfl
          have b6 : (l.kind != 6) = false := by simp only [bne, k6]; rfl
          clear hcb
          go_wp2_with fail
          go_roundw
          case rel => exact ⟨k + 1, co, m, cap, by omega, by omega, by go_num, rfl, by rw [HS2.out]; exact hout, hbel⟩
          case measure => simp [intOf] <;> omega
      · have HS2 : Hid (namesL (ls.take (k + 1)) (bs.take (k + 1)) = namesL (ls.take k) (bs.take k) ++ [l.name]) := by show _ = _; rw [HS.out]; simp
        have k6 : (l.kind == 6) = false := HNV.out rfl
        have b6 : (l.kind != 6) = true := by simp only [bne, k6]; rfl
        have hcb2 : wr.cell? ⟨g, k, none⟩ = some (.bool true) := by rw [hcb]; rfl
        clear hcb
        go_wp2_with (at_builtin; refine wpList_append_s rfl _ _ rfl w4.heap.size _ _ _ _ _ rfl (by first | rfl | (simp; rfl)) hout (by omega) hbel.size ?_; intro ao' cap' w6 hown6 hg6)
        have hbr6 := below_append hbel hout.2.2 hg6 hbel.size
        go_roundw
        case rel => exact ⟨k + 1, ao', m + 1, cap', by omega, by omega, by go_num, rfl, by rw [HS2.out]; exact hown6, hbr6⟩
        case measure => simp [intOf] <;> omega
    · obtain rfl : k = n := by omega
      rw [List.take_of_length_le (by rw [hl.out]; exact Nat.le_refl _), List.take_of_length_le (by rw [HBL.out, hl.out]; exact Nat.le_refl _)] at hout
      go_wp2_with fail
      go_ret2
      exact RetStB.eq HF.out (hout.up hbw4.size) hbelw
theorem namesF_len {ls : List Ln} {ans : List ByteArray × Bool} {n : Nat} (h : ans = namesF ls) (hn : ans.1.length = n) : n ≤ 1048576 := by
  rw [← hn, h]
  unfold namesF
  split
  · next hg =>
    have h1 := good_len2 hg
    show (namesL ls (ndL ls ls.length)).length ≤ 1048576
    unfold namesL
    rw [List.length_map]
    refine Nat.le_trans (List.length_filter_le _ _) ?_
    rw [List.length_zip]
    omega
  · simp
end Go.Proofs.Ytdlddkgmjpmenaa
