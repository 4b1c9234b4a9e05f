/-
  The language: programs among a law's arguments.
-/
import Derived.Test.YtdlddkgmjpmenaaDoorLn5
import Derived.Deep.Slices
import Derived.Deep.Strs
namespace Go.Proofs.YtdlddkgmjpmenaaDoor
open Go.RowKit
set_option linter.unusedVariables false
set_option linter.unusedSimpArgs false

def StrsArg (w : World) (ao : Option Addr) (n : Nat) (ss : List ByteArray) : Prop := ss.length = n ∧ n ≤ maxLen ∧ (∀ s ∈ ss, s.size ≤ maxLen) ∧ CellsAt w w.heap.size ao (ss.map Value.string)
def LnsArg (w : World) (ao : Option Addr) (n : Nat) (ls : List Ln) : Prop :=
  ls.length = n ∧ n ≤ maxLen ∧ (∀ x ∈ ls, x.name.size ≤ maxLen ∧ x.op.size ≤ maxLen) ∧
  ∃ hs : List (Option Addr × Nat), hs.length = n ∧ CellsAt w w.heap.size ao (linesCells ls hs) ∧ ∀ (k : Nat) (l : Ln) (h : Option Addr × Nat), ls[k]? = some l → hs[k]? = some h → StrsArg w h.1 l.parts.length l.parts
theorem StrsArg.strs {w : World} {ao : Option Addr} {n : Nat} {ss : List ByteArray} (h : StrsArg w ao n ss) (hn : n ≤ 1048576) : Strs w w.heap.size ao n ss := ⟨h.1, by omega, h.2.2.2⟩
theorem LnsArg.lns {w : World} {ao : Option Addr} {n : Nat} {ls : List Ln} (h : LnsArg w ao n ls) (hn : n ≤ 1048576) (hs : okS ls) : Lns w w.heap.size ao n ls := by
  obtain ⟨h1, h2, h3, hs', h4, h5, h6⟩ := h
  exact ⟨h1, by omega, hs', h4, h5, fun k l x a b => (h6 k l x a b).strs (okS_at hs a).2.2⟩
theorem StrsArg.at {w : World} {ao : Option Addr} {n : Nat} {ss : List ByteArray} (h : StrsArg w ao n ss) {k : Nat} (hk : k < n) : ∃ b off x, ao = some ⟨b, off, none⟩ ∧ b < w.heap.size ∧ ss[k]? = some x ∧ x.size ≤ maxLen ∧ w.cell? ⟨b, off + k, none⟩ = some (.string x) := by
  obtain ⟨rfl, _, hsz, h⟩ := h
  rcases h with h | ⟨b, off, rfl, hlt, h⟩
  · simp at h; subst h; simp at hk
  · exact ⟨b, off, ss[k], rfl, hlt, by simp [hk], hsz _ (by simp), h k _ (by simp [hk])⟩
theorem StrsArg.below {w w' : World} {ao : Option Addr} {n : Nat} {ss : List ByteArray} (h : StrsArg w ao n ss) (hb : Below w.heap.size w w') : StrsArg w' ao n ss :=
  ⟨h.1, h.2.1, h.2.2.1, (h.2.2.2.below hb (Nat.le_refl _)).up hb.size⟩
theorem LnsArg.below {w w' : World} {ao : Option Addr} {n : Nat} {ls : List Ln} (h : LnsArg w ao n ls) (hb : Below w.heap.size w w') : LnsArg w' ao n ls := by
  obtain ⟨h1, h2, h3, hs', h4, h5, h6⟩ := h
  exact ⟨h1, h2, h3, hs', h4, (h5.below hb (Nat.le_refl _)).up hb.size, fun k l x a b => (h6 k l x a b).below hb⟩
theorem LnsArg.at {w : World} {ao : Option Addr} {n : Nat} {ls : List Ln} (h : LnsArg w ao n ls) {k : Nat} (hk : k < n) :
    ∃ b o l pa pc, ao = some ⟨b, o, none⟩ ∧ b < w.heap.size ∧ ls[k]? = some l ∧ (l.name.size ≤ maxLen ∧ l.op.size ≤ maxLen) ∧ StrsArg w pa l.parts.length l.parts ∧
      w.cell? ⟨b, o + k * 7, none⟩ = some (.int .i64 l.kind) ∧ w.cell? ⟨b, o + k * 7 + 1, none⟩ = some (.string l.name) ∧ w.cell? ⟨b, o + k * 7 + 2, none⟩ = some (.string l.op) ∧ w.cell? ⟨b, o + k * 7 + 3, none⟩ = some (.slice pa l.parts.length pc) ∧
      w.cell? ⟨b, o + k * 7 + 4, none⟩ = some (.int .i64 l.party) ∧ w.cell? ⟨b, o + k * 7 + 5, none⟩ = some (.int .i64 l.width) ∧ w.cell? ⟨b, o + k * 7 + 6, none⟩ = some (.int .i64 l.value) := by
  obtain ⟨rfl, _, hsz, hs, h3, h4, h5⟩ := h
  have e1 : ls[k]? = some ls[k] := by simp
  obtain ⟨h0, e2⟩ : ∃ h0, hs[k]? = some h0 := ⟨hs[k]'(by omega), by simp⟩
  have e3 := fun j v => linesCells_at ls hs k _ _ e1 e2 j v
  rcases h4 with h4 | ⟨b, o, rfl, hb, h4⟩
  · have := e3 0 (.int .i64 ls[k].kind) rfl
    rw [h4] at this
    simp at this
  · refine ⟨b, o, ls[k], h0.1, h0.2, rfl, hb, e1, hsz _ (by simp), h5 k _ _ e1 e2, ?_, ?_, ?_, ?_, ?_, ?_, ?_⟩
    · have := h4 _ _ (e3 0 _ rfl); simpa using this
    · have := h4 _ _ (e3 1 _ rfl); rwa [← Nat.add_assoc] at this
    · have := h4 _ _ (e3 2 _ rfl); rwa [← Nat.add_assoc] at this
    · have := h4 _ _ (e3 3 _ rfl); rwa [← Nat.add_assoc] at this
    · have := h4 _ _ (e3 4 _ rfl); rwa [← Nat.add_assoc] at this
    · have := h4 _ _ (e3 5 _ rfl); rwa [← Nat.add_assoc] at this
    · have := h4 _ _ (e3 6 _ rfl); rwa [← Nat.add_assoc] at this
theorem linesCells_back : ∀ (ls : List Ln) (hs : List (Option Addr × Nat)) (i : Nat) (v : Value), ls.length = hs.length → (linesCells ls hs)[i]? = some v → ∃ l h, ls[i / 7]? = some l ∧ hs[i / 7]? = some h ∧ (lineCells l h)[i % 7]? = some v
  | [], [], i, v, _, h => by simp [linesCells] at h
  | [], _ :: _, _, _, h, _ => by simp at h
  | _ :: _, [], _, _, h, _ => by simp at h
  | l0 :: ls, h0 :: hs, i, v, hl, h => by
    rw [linesCells] at h
    have e7 : (lineCells l0 h0).length = 7 := rfl
    by_cases hi : i < 7
    · rw [List.getElem?_append_left (by omega)] at h
      refine ⟨l0, h0, ?_, ?_, ?_⟩
      · rw [Nat.div_eq_of_lt hi]; rfl
      · rw [Nat.div_eq_of_lt hi]; rfl
      · rw [Nat.mod_eq_of_lt hi]; exact h
    · rw [List.getElem?_append_right (by omega), e7] at h
      obtain ⟨l, hh, a, b, c⟩ := linesCells_back ls hs (i - 7) v (by simpa using hl) h
      obtain ⟨j, rfl⟩ : ∃ j, i = j + 7 := ⟨i - 7, by omega⟩
      rw [Nat.add_sub_cancel] at a b c
      refine ⟨l, hh, ?_, ?_, ?_⟩
      · rw [Nat.add_div_right _ (by decide)]; simpa using a
      · rw [Nat.add_div_right _ (by decide)]; simpa using b
      · rw [Nat.add_mod_right]; exact c
theorem cellsAt_open {W : World} {x : Addr} {cs : List Value} (h : ∀ (i : Nat) (v : Value), cs[i]? = some v → W.cell? (x.add i) = some v) (hp : 0 < cs.length) : ∃ b off, x = ⟨b, off, none⟩ ∧ CellsAt W W.heap.size (some ⟨b, off, none⟩) cs := by
  have h0 := h 0 cs[0] (by simp)
  obtain ⟨b, off, spot⟩ := x
  have hspot : spot = none := by simpa [Addr.add] using World.cell?_spot h0
  subst hspot
  have hlt : b < W.heap.size := by
    have := World.block_lt_of_cell? W _ h0
    rw [Addr.add_lit] at this
    exact this
  exact ⟨b, off, rfl, .inr ⟨b, off, rfl, hlt, fun j u hu => by have := h j u hu; rwa [Addr.add_lit] at this⟩⟩
set_option maxRecDepth 100000 in
open Go.ChangeShapes Go.WideShapes in
theorem strs_arg {H : Type} {enc : TypeId × Value → H} {W : World} {fuel : Nat} {a : Option Addr} {len cap : Nat} {x : DataW H × List MemPlace}
    (hf : DataW.trod enc Tryd.prog W 0 (fun _ => true) true fuel 31 [.slice a len cap] = some x) : ∃ ss, StrsArg W a len ss := by
  rcases Go.Deep.open_strs Tryd.underlying31 Tryd.underlying9 (by kernel_rfl) hf with ⟨hcs, _⟩ | ⟨ad, l, cp, m, Sx, hcs, _, hl, hm, hmm, _, hx⟩
  · simp at hcs
    obtain ⟨rfl, rfl, rfl⟩ := hcs
    exact ⟨[], rfl, Nat.zero_le _, by simp, .inl rfl⟩
  · simp at hcs hmm
    obtain ⟨rfl, rfl, rfl⟩ := hcs
    subst hmm
    refine ⟨(List.range len).map Sx, by simp, Nat.le_trans hl hm, ?_, ?_⟩
    · intro s hs
      simp at hs
      obtain ⟨i, hi, rfl⟩ := hs
      exact (hx i (by omega)).2
    · rcases Nat.eq_zero_or_pos len with h0 | hp
      · subst h0; exact .inl rfl
      · obtain ⟨b, off, rfl, hc⟩ := cellsAt_open (W := W) (x := ad) (cs := ((List.range len).map Sx).map Value.string) (fun i v hv => by
          have hi : i < len := by have := (List.getElem?_eq_some_iff.1 hv).1; simpa using this
          have e : (((List.range len).map Sx).map Value.string)[i]? = some (.string (Sx i)) := by simp [hi]
          rw [e] at hv
          rw [← hv]
          exact (hx i (by omega)).1) (by simpa using hp)
        exact hc
instance : Inhabited Ln := ⟨⟨0, ⟨#[]⟩, ⟨#[]⟩, [], 0, 0, 0⟩⟩
set_option maxRecDepth 100000 in
open Go.ChangeShapes Go.WideShapes in
theorem line_arg {H : Type} {enc : TypeId × Value → H} {W : World} {fuel : Nat} {cs : List Value} {x : DataW H × List MemPlace}
    (hf : DataW.trod enc Tryd.prog W 0 (fun _ => true) true fuel 33 cs = some x) : ∃ (l : Ln) (h : Option Addr × Nat), cs = lineCells l h ∧ (l.name.size ≤ maxLen ∧ l.op.size ≤ maxLen) ∧ StrsArg W h.1 l.parts.length l.parts := by
  obtain ⟨xs, n, _, _, hsz, hxl, hg⟩ := DataW.trod_struct Tryd.underlying33 hf
  rw [show Tryd.prog.cellsOf 33 = 7 by kernel_rfl] at hsz
  match cs, hsz with
  | [v0, v1, v2, v3, v4, v5, v6], _ =>
    have g0 := hg 0 _ rfl
    have g1 := hg 1 _ rfl
    have g2 := hg 2 _ rfl
    have g3 := hg 3 _ rfl
    have g4 := hg 4 _ rfl
    have g5 := hg 5 _ rfl
    have g6 := hg 6 _ rfl
    have c0 : Tryd.prog.cellsOf 3 = 1 := by kernel_rfl
    have c1 : Tryd.prog.cellsOf 9 = 1 := by kernel_rfl
    have c2 : Tryd.prog.cellsOf 31 = 1 := by kernel_rfl
    simp [c0, c1, c2, hxl] at g0 g1 g2 g3 g4 g5 g6
    obtain ⟨i0, h0, _⟩ := DataW.trod_int Tryd.underlying3 g0
    obtain ⟨i4, h4, _⟩ := DataW.trod_int Tryd.underlying3 g4
    obtain ⟨i5, h5, _⟩ := DataW.trod_int Tryd.underlying3 g5
    obtain ⟨i6, h6, _⟩ := DataW.trod_int Tryd.underlying3 g6
    obtain ⟨s1, h1, _, z1⟩ := DataW.trod_string Tryd.underlying9 g1
    obtain ⟨s2, h2, _, z2⟩ := DataW.trod_string Tryd.underlying9 g2
    simp at h0 h1 h2 h4 h5 h6
    subst h0
    subst h1
    subst h2
    subst h4
    subst h5
    subst h6
    have hc : ∃ ga gn gc, v3 = .slice ga gn gc := by
      rcases Go.Deep.open_slice Tryd.underlying31 g3 with ⟨hcs, _⟩ | ⟨ad, l, cp, m, n, D, Pl, hcs, _⟩ <;> simp at hcs <;> exact ⟨_, _, _, hcs⟩
    obtain ⟨ga, gn, gc, rfl⟩ := hc
    obtain ⟨ss, hss⟩ := strs_arg g3
    obtain rfl : ss.length = gn := hss.1
    exact ⟨⟨i0, s1, s2, ss, i4, i5, i6⟩, (ga, gc), rfl, ⟨z1, z2⟩, hss⟩
set_option maxRecDepth 100000 in
open Go.ChangeShapes Go.WideShapes in
theorem lines_arg {H : Type} {enc : TypeId × Value → H} {W : World} {fuel : Nat} {a : Option Addr} {len cap : Nat} {x : DataW H × List MemPlace}
    (hf : DataW.trod enc Tryd.prog W 0 (fun _ => true) true fuel 22 [.slice a len cap] = some x) : ∃ ls, LnsArg W a len ls := by
  rcases Go.Deep.open_slice Tryd.underlying22 hf with ⟨hcs, _⟩ | ⟨ad, l, cp, m, n, D, Pl, hcs, _, hl, hm, hmm, _, hx⟩
  · simp at hcs
    obtain ⟨rfl, rfl, rfl⟩ := hcs
    exact ⟨[], rfl, Nat.zero_le _, by simp, [], rfl, .inl rfl, by simp⟩
  · simp at hcs hmm
    obtain ⟨rfl, rfl, rfl⟩ := hcs
    subst hmm
    rw [show Tryd.prog.cellsOf 33 = 7 by kernel_rfl] at hx
    have key : ∀ i, i < len → ∃ p : Ln × (Option Addr × Nat), (∀ j v, (lineCells p.1 p.2)[j]? = some v → W.cell? (ad.add (i * 7 + j)) = some v) ∧ (p.1.name.size ≤ maxLen ∧ p.1.op.size ≤ maxLen) ∧ StrsArg W p.2.1 p.1.parts.length p.1.parts := by
      intro i hi
      obtain ⟨cs', h1, h2⟩ := hx i (by omega)
      obtain ⟨_, hlen, hcell⟩ := World.cells?_some h1
      obtain ⟨l, h, rfl, hz, hss⟩ := line_arg h2
      refine ⟨(l, h), fun j v hv => ?_, hz, hss⟩
      have hj : j < 7 := by have := (List.getElem?_eq_some_iff.1 hv).1; exact this
      have h3 := hcell j hj
      rw [Go.Deep.add_add] at h3
      rw [h3]
      exact hv
    obtain ⟨f, hF⟩ := Go.Deep.choose_lt key
    have e1 : ∀ i, i < len → ((List.range len).map fun i => (f i).1)[i]? = some (f i).1 := fun i hi => by simp [hi]
    have e2 : ∀ i, i < len → ((List.range len).map fun i => (f i).2)[i]? = some (f i).2 := fun i hi => by simp [hi]
    have e3 : ∀ i (y : Ln), ((List.range len).map fun i => (f i).1)[i]? = some y → i < len := fun i y hy => by have := (List.getElem?_eq_some_iff.1 hy).1; simpa using this
    refine ⟨(List.range len).map fun i => (f i).1, by simp, Nat.le_trans hl hm, ?_, (List.range len).map fun i => (f i).2, by simp, ?_, ?_⟩
    · intro y hy
      simp at hy
      obtain ⟨i, hi, rfl⟩ := hy
      exact (hF i hi).2.1
    · rcases Nat.eq_zero_or_pos len with h0 | hp
      · subst h0; exact .inl rfl
      · have hat : ∀ (i : Nat) (v : Value), (linesCells ((List.range len).map fun i => (f i).1) ((List.range len).map fun i => (f i).2))[i]? = some v → W.cell? (ad.add i) = some v := by
          intro i v hv
          obtain ⟨y, h, a1, a2, a3⟩ := linesCells_back _ _ _ _ (by simp) hv
          have hi := e3 _ _ a1
          rw [e1 _ hi] at a1
          rw [e2 _ hi] at a2
          simp only [Option.some.injEq] at a1 a2
          subst a1
          subst a2
          have := (hF _ hi).1 _ _ a3
          rwa [Nat.div_add_mod'] at this
        obtain ⟨b, off, rfl, hc⟩ := cellsAt_open hat (by
          have := linesCells_at _ _ 0 _ _ (e1 0 hp) (e2 0 hp) 0 _ rfl
          have := (List.getElem?_eq_some_iff.1 this).1
          omega)
        exact hc
    · intro k y h a1 a2
      have hi := e3 _ _ a1
      rw [e1 _ hi] at a1
      rw [e2 _ hi] at a2
      simp only [Option.some.injEq] at a1 a2
      subst a1
      subst a2
      exact (hF _ hi).2.2
end Go.Proofs.YtdlddkgmjpmenaaDoor
