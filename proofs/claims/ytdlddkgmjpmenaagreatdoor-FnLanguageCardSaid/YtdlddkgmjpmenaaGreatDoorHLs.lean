/-
  The language: programs among a law's arguments.
-/
import Derived.Test.YtdlddkgmjpmenaaGreatDoorHLc
import Derived.Deep.Slices
import Derived.Deep.Strs
import Derived.Test.YtdlddkgmjpmenaaGreatDoorHLn
import Derived.Test.YtdlddkgmjpmenaaGreatDoorHB
import Derived.StillTailTactics
namespace Go.Proofs.YtdlddkgmjpmenaaGreatDoor
open Go.RowKit
set_option linter.unusedVariables false
set_option linter.unusedSimpArgs false

def StrsArg (w : World) (ao : Option Addr) (n : Nat) (ss : List ByteArray) : Prop := ss.length = n ∧ n ≤ maxLen ∧ (∀ s ∈ ss, s.size ≤ maxLen) ∧ CellsAt w w.heap.size ao (ss.map Value.string)
def LnsArg (w : World) (ao : Option Addr) (n : Nat) (ls : List Ln) : Prop :=
  ls.length = n ∧ n ≤ maxLen ∧ (∀ x ∈ ls, x.name.size ≤ maxLen ∧ x.op.size ≤ maxLen) ∧
  ∃ hs : List (Option Addr × Nat), hs.length = n ∧ CellsAt w w.heap.size ao (linesCells ls hs) ∧ ∀ (k : Nat) (l : Ln) (h : Option Addr × Nat), ls[k]? = some l → hs[k]? = some h → StrsArg w h.1 l.parts.length l.parts
theorem StrsArg.strs {w : World} {ao : Option Addr} {n : Nat} {ss : List ByteArray} (h : StrsArg w ao n ss) (hn : n ≤ 1048576) : Strs w w.heap.size ao n ss := ⟨h.1, by omega, h.2.2.2⟩
theorem LnsArg.lns {w : World} {ao : Option Addr} {n : Nat} {ls : List Ln} (h : LnsArg w ao n ls) (hn : n ≤ 1048576) (hs : okS ls) : Lns w w.heap.size ao n ls := by
  obtain ⟨h1, h2, h3, hs', h4, h5, h6⟩ := h
  exact ⟨h1, by omega, hs', h4, h5, fun k l x a b => (h6 k l x a b).strs (okS_at hs a).2.2⟩
theorem StrsArg.at {w : World} {ao : Option Addr} {n : Nat} {ss : List ByteArray} (h : StrsArg w ao n ss) {k : Nat} (hk : k < n) : ∃ b off x, ao = some ⟨b, off, none⟩ ∧ b < w.heap.size ∧ ss[k]? = some x ∧ x.size ≤ maxLen ∧ w.cell? ⟨b, off + k, none⟩ = some (.string x) := by
  obtain ⟨rfl, _, hsz, h⟩ := h
  rcases h with h | ⟨b, off, rfl, hlt, h⟩
  · simp at h; subst h; simp at hk
  · exact ⟨b, off, ss[k], rfl, hlt, by simp [hk], hsz _ (by simp), h k _ (by simp [hk])⟩
theorem StrsArg.below {w w' : World} {ao : Option Addr} {n : Nat} {ss : List ByteArray} (h : StrsArg w ao n ss) (hb : Below w.heap.size w w') : StrsArg w' ao n ss :=
  ⟨h.1, h.2.1, h.2.2.1, (h.2.2.2.below hb (Nat.le_refl _)).up hb.size⟩
theorem LnsArg.below {w w' : World} {ao : Option Addr} {n : Nat} {ls : List Ln} (h : LnsArg w ao n ls) (hb : Below w.heap.size w w') : LnsArg w' ao n ls := by
  obtain ⟨h1, h2, h3, hs', h4, h5, h6⟩ := h
  exact ⟨h1, h2, h3, hs', h4, (h5.below hb (Nat.le_refl _)).up hb.size, fun k l x a b => (h6 k l x a b).below hb⟩
theorem LnsArg.at {w : World} {ao : Option Addr} {n : Nat} {ls : List Ln} (h : LnsArg w ao n ls) {k : Nat} (hk : k < n) :
    ∃ b o l pa pc, ao = some ⟨b, o, none⟩ ∧ b < w.heap.size ∧ ls[k]? = some l ∧ (l.name.size ≤ maxLen ∧ l.op.size ≤ maxLen) ∧ StrsArg w pa l.parts.length l.parts ∧
      w.cell? ⟨b, o + k * 7, none⟩ = some (.int .i64 l.kind) ∧ w.cell? ⟨b, o + k * 7 + 1, none⟩ = some (.string l.name) ∧ w.cell? ⟨b, o + k * 7 + 2, none⟩ = some (.string l.op) ∧ w.cell? ⟨b, o + k * 7 + 3, none⟩ = some (.slice pa l.parts.length pc) ∧
      w.cell? ⟨b, o + k * 7 + 4, none⟩ = some (.int .i64 l.party) ∧ w.cell? ⟨b, o + k * 7 + 5, none⟩ = some (.int .i64 l.width) ∧ w.cell? ⟨b, o + k * 7 + 6, none⟩ = some (.int .i64 l.value) := by
  obtain ⟨rfl, _, hsz, hs, h3, h4, h5⟩ := h
  have e1 : ls[k]? = some ls[k] := by simp
  obtain ⟨h0, e2⟩ : ∃ h0, hs[k]? = some h0 := ⟨hs[k]'(by omega), by simp⟩
  have e3 := fun j v => linesCells_at ls hs k _ _ e1 e2 j v
  rcases h4 with h4 | ⟨b, o, rfl, hb, h4⟩
  · have := e3 0 (.int .i64 ls[k].kind) rfl
    rw [h4] at this
    simp at this
  · refine ⟨b, o, ls[k], h0.1, h0.2, rfl, hb, e1, hsz _ (by simp), h5 k _ _ e1 e2, ?_, ?_, ?_, ?_, ?_, ?_, ?_⟩
    · have := h4 _ _ (e3 0 _ rfl); simpa using this
    · have := h4 _ _ (e3 1 _ rfl); rwa [← Nat.add_assoc] at this
    · have := h4 _ _ (e3 2 _ rfl); rwa [← Nat.add_assoc] at this
    · have := h4 _ _ (e3 3 _ rfl); rwa [← Nat.add_assoc] at this
    · have := h4 _ _ (e3 4 _ rfl); rwa [← Nat.add_assoc] at this
    · have := h4 _ _ (e3 5 _ rfl); rwa [← Nat.add_assoc] at this
    · have := h4 _ _ (e3 6 _ rfl); rwa [← Nat.add_assoc] at this
theorem linesCells_back : ∀ (ls : List Ln) (hs : List (Option Addr × Nat)) (i : Nat) (v : Value), ls.length = hs.length → (linesCells ls hs)[i]? = some v → ∃ l h, ls[i / 7]? = some l ∧ hs[i / 7]? = some h ∧ (lineCells l h)[i % 7]? = some v
  | [], [], i, v, _, h => by simp [linesCells] at h
  | [], _ :: _, _, _, h, _ => by simp at h
  | _ :: _, [], _, _, h, _ => by simp at h
  | l0 :: ls, h0 :: hs, i, v, hl, h => by
    rw [linesCells] at h
    have e7 : (lineCells l0 h0).length = 7 := rfl
    by_cases hi : i < 7
    · rw [List.getElem?_append_left (by omega)] at h
      refine ⟨l0, h0, ?_, ?_, ?_⟩
      · rw [Nat.div_eq_of_lt hi]; rfl
      · rw [Nat.div_eq_of_lt hi]; rfl
      · rw [Nat.mod_eq_of_lt hi]; exact h
    · rw [List.getElem?_append_right (by omega), e7] at h
      obtain ⟨l, hh, a, b, c⟩ := linesCells_back ls hs (i - 7) v (by simpa using hl) h
      obtain ⟨j, rfl⟩ : ∃ j, i = j + 7 := ⟨i - 7, by omega⟩
      rw [Nat.add_sub_cancel] at a b c
      refine ⟨l, hh, ?_, ?_, ?_⟩
      · rw [Nat.add_div_right _ (by decide)]; simpa using a
      · rw [Nat.add_div_right _ (by decide)]; simpa using b
      · rw [Nat.add_mod_right]; exact c
theorem cellsAt_open {W : World} {x : Addr} {cs : List Value} (h : ∀ (i : Nat) (v : Value), cs[i]? = some v → W.cell? (x.add i) = some v) (hp : 0 < cs.length) : ∃ b off, x = ⟨b, off, none⟩ ∧ CellsAt W W.heap.size (some ⟨b, off, none⟩) cs := by
  have h0 := h 0 cs[0] (by simp)
  obtain ⟨b, off, spot⟩ := x
  have hspot : spot = none := by simpa [Addr.add] using World.cell?_spot h0
  subst hspot
  have hlt : b < W.heap.size := by
    have := World.block_lt_of_cell? W _ h0
    rw [Addr.add_lit] at this
    exact this
  exact ⟨b, off, rfl, .inr ⟨b, off, rfl, hlt, fun j u hu => by have := h j u hu; rwa [Addr.add_lit] at this⟩⟩
set_option maxRecDepth 100000 in
open Go.ChangeShapes Go.WideShapes in
theorem strs_arg {H : Type} {enc : TypeId × Value → H} {W : World} {fuel : Nat} {a : Option Addr} {len cap : Nat} {x : DataW H × List MemPlace}
    (hf : DataW.trod enc Tryz.prog W 0 (fun _ => true) true fuel 45 [.slice a len cap] = some x) : ∃ ss, StrsArg W a len ss := by
  rcases Go.Deep.open_strs Tryz.underlying45 Tryz.underlying9 (by kernel_rfl) hf with ⟨hcs, _⟩ | ⟨ad, l, cp, m, Sx, hcs, _, hl, hm, hmm, _, hx⟩
  · simp at hcs
    obtain ⟨rfl, rfl, rfl⟩ := hcs
    exact ⟨[], rfl, Nat.zero_le _, by simp, .inl rfl⟩
  · simp at hcs hmm
    obtain ⟨rfl, rfl, rfl⟩ := hcs
    subst hmm
    refine ⟨(List.range len).map Sx, by simp, Nat.le_trans hl hm, ?_, ?_⟩
    · intro s hs
      simp at hs
      obtain ⟨i, hi, rfl⟩ := hs
      exact (hx i (by omega)).2
    · rcases Nat.eq_zero_or_pos len with h0 | hp
      · subst h0; exact .inl rfl
      · obtain ⟨b, off, rfl, hc⟩ := cellsAt_open (W := W) (x := ad) (cs := ((List.range len).map Sx).map Value.string) (fun i v hv => by
          have hi : i < len := by have := (List.getElem?_eq_some_iff.1 hv).1; simpa using this
          have e : (((List.range len).map Sx).map Value.string)[i]? = some (.string (Sx i)) := by simp [hi]
          rw [e] at hv
          rw [← hv]
          exact (hx i (by omega)).1) (by simpa using hp)
        exact hc
instance : Inhabited Ln := ⟨⟨0, ⟨#[]⟩, ⟨#[]⟩, [], 0, 0, 0⟩⟩
end Go.Proofs.YtdlddkgmjpmenaaGreatDoor
/-
  The language: sizes of programs in the laws.
-/
namespace Go.Proofs.YtdlddkgmjpmenaaGreatDoor
open Go.RowKit
set_option linter.unusedVariables false
set_option linter.unusedSimpArgs false

def okLine (l : Ln) : Prop := l.name.size ≤ 1048576 ∧ l.op.size ≤ 1048576 ∧ l.parts.length ≤ 1048576
def partsSum (ls : List Ln) : Nat := (ls.map fun l => l.parts.length).foldl (· + ·) 0
theorem partsSum_step {ls : List Ln} {k : Nat} {x : Ln} (h : ls[k]? = some x) : partsSum (ls.take (k + 1)) = partsSum (ls.take k) + x.parts.length := by
  unfold partsSum
  rw [List.take_add_one, h, List.map_append, List.foldl_append]
  rfl
theorem okS_snoc {ls : List Ln} {k : Nat} {x : Ln} (h : ls[k]? = some x) (hs : okS (ls.take k)) (hx : okLine x) : okS (ls.take (k + 1)) := by
  intro y hy
  rw [List.take_add_one, h, List.mem_append] at hy
  rcases hy with hy | hy
  · exact hs y hy
  · simp at hy; subst hy; exact hx
end Go.Proofs.YtdlddkgmjpmenaaGreatDoor
/-
  The language: comparisons of equal programs in the laws.
-/
namespace Go.Proofs.YtdlddkgmjpmenaaGreatDoor
open Go.RowKit
set_option linter.unusedVariables false
set_option linter.unusedSimpArgs false

set_option maxHeartbeats 2000000 in
theorem eqStringS_same (w : World) (B C : Nat) (ao bo : Option Addr) (n c d : Nat) (ss : List ByteArray) (ha : Strs w B ao n ss) (hb : Strs w C bo n ss) (hB : B ≤ w.heap.size) (hC : C ≤ w.heap.size) :
    Calls Tryz.prog 63 #[.slice ao n c, .slice bo n d] w (RetB true w) := by
  have hn := ha.le
  go_enter Tryz.func63, Tryz.ntmps63
  go_wp2
  go_loopw [5] (fun i wr => ∃ k : Nat, k ≤ n ∧ i = .int .i64 k ∧ Below w.heap.size w wr) (fun i _ => n - (intOf i).toNat)
  case atStart => exact ⟨0, Nat.zero_le _, rfl, Below.refl _ _⟩
  case round =>
    obtain ⟨k, hk, rfl, hbel⟩ := hrel
    by_cases hlt : k < n
    · obtain ⟨b1, o1, x, rfl, hb1, hx, hc1⟩ := (ha.below hbel hB).at hlt
      obtain ⟨b2, o2, y, rfl, hb2, hy, hc2⟩ := (hb.below hbel hC).at hlt
      obtain rfl : x = y := by rw [hx] at hy; simpa using hy
      clear hx hy
      go_wp2
      go_quiet (fail)
      have hbd := bdrewN hbel nq
      generalize wr.drewN nq = wd at hbd ⊢
      clear hc1 hc2
      go_wp2_with fail
      go_roundw
      case rel => exact ⟨k + 1, by omega, by go_num, hbd⟩
      case measure => simp [intOf] <;> omega
    · obtain rfl : k = n := by omega
      go_wp2
      go_ret
      exact ⟨rfl, hbel⟩
set_option maxHeartbeats 4000000 in
set_option maxRecDepth 20000 in
theorem eqLine_same (w : World) (B C : Nat) (l : Ln) (pa pb : Option Addr) (pc qc : Nat) (ha : Strs w B pa l.parts.length l.parts) (hb : Strs w C pb l.parts.length l.parts) (hB : B ≤ w.heap.size) (hC : C ≤ w.heap.size) :
    Calls Tryz.prog 30 #[lineV l pa pc, lineV l pb qc] w (RetB true w) := by
  obtain ⟨W1, hW1⟩ : ∃ W1, W1 = w.alloc (lineObj l pa pc) := ⟨_, rfl⟩
  have hb1 : Below w.heap.size w W1 := by rw [hW1]; exact (Below.refl _ _).alloc (Nat.le_refl _) _
  have hx1 : BoxL W1 w.heap.size l pa pc := by rw [hW1]; exact boxL_new _ _ _ _
  have hz1 : w.heap.size < W1.heap.size := by rw [hW1]; simp
  have HW1 := Lib.hid hW1
  clear hW1
  obtain ⟨W2, hW2⟩ : ∃ W2, W2 = W1.alloc (lineObj l pb qc) := ⟨_, rfl⟩
  have hb2 : Below W1.heap.size W1 W2 := by rw [hW2]; exact (Below.refl _ _).alloc (Nat.le_refl _) _
  have hx2 : BoxL W2 W1.heap.size l pb qc := by rw [hW2]; exact boxL_new _ _ _ _
  have hz2 : W1.heap.size < W2.heap.size := by rw [hW2]; simp
  have HW2 := Lib.hid hW2
  clear hW2
  have hbw := hb1.trans (hb2.mono (by omega))
  have hA := (ha.below hbw hB)
  have hBB := (hb.below hbw hC)
  have HX1 := Lib.hid (hx1.below hb2 hz1)
  have HX2 := Lib.hid hx2
  clear hx1 hx2
  unfold lineObj at HW1 HW2
  unfold lineV
  obtain ⟨e0, e1, e2, e3, e4, e5, e6⟩ := HX1.out
  obtain ⟨d0, d1, d2, d3, d4, d5, d6⟩ := HX2.out
  go_enter Tryz.func30, Tryz.ntmps30
  go_wp2_with (first | rw [← HW1.out] | rw [← HW2.out])
  refine (eqStringS_same _ _ _ _ _ _ _ _ _ hA hBB (by omega) (by omega)).mono ?_
  rintro e w3 ⟨rfl, hb3⟩
  clear e0 e1 e2 e3 e4 e5 e6 d0 d1 d2 d3 d4 d5 d6
  obtain ⟨e0, e1, e2, e3, e4, e5, e6⟩ := HX1.out.below hb3 (by omega)
  obtain ⟨d0, d1, d2, d3, d4, d5, d6⟩ := HX2.out.below hb3 hz2
  go_wp2_with fail
  go_ret
  exact ⟨rfl, hbw.trans (hb3.mono hbw.size)⟩
set_option maxHeartbeats 4000000 in
set_option maxRecDepth 20000 in
theorem eqLineS_same (w : World) (B C : Nat) (ao bo : Option Addr) (n c d : Nat) (ls : List Ln) (ha : Lns w B ao n ls) (hb : Lns w C bo n ls) (hB : B ≤ w.heap.size) (hC : C ≤ w.heap.size) :
    Calls Tryz.prog 7 #[.slice ao n c, .slice bo n d] w (RetB true w) := by
  have hn := ha.le
  go_enter Tryz.func7, Tryz.ntmps7
  go_wp2
  go_loopw [5] (fun i wr => ∃ k : Nat, k ≤ n ∧ i = .int .i64 k ∧ Below w.heap.size w wr) (fun i _ => n - (intOf i).toNat)
  case atStart => exact ⟨0, Nat.zero_le _, rfl, Below.refl _ _⟩
  case round =>
    obtain ⟨k, hk, rfl, hbel⟩ := hrel
    by_cases hlt : k < n
    · obtain ⟨b1, o1, x, pa, pc, rfl, hb1, hx, hps, g0, g1, g2, g3, g4, g5, g6⟩ := (ha.below hbel hB).at hlt
      obtain ⟨b2, o2, y, pb, qc, rfl, hb2, hy, hqs, k0, k1, k2, k3, k4, k5, k6⟩ := (hb.below hbel hC).at hlt
      obtain rfl : x = y := by rw [hx] at hy; simpa using hy
      clear hx hy
      go_wp2_with fail
      go_still_tail 8, (by kernel_rfl)
      change wpList _ _ _ _ _ wr.drew
      have hbd : Below w.heap.size w wr.drew := bdrewN hbel 1
      have hps' : Strs wr.drew B pa x.parts.length x.parts := hps
      have hqs' : Strs wr.drew C pb x.parts.length x.parts := hqs
      clear g0 g1 g2 g3 g4 g5 g6 k0 k1 k2 k3 k4 k5 k6 hps hqs
      generalize wr.drew = wd at *
      go_wp2_with fail
      refine (eqLine_same _ _ _ x _ _ _ _ hps' hqs' (Nat.le_trans hB hbd.size) (Nat.le_trans hC hbd.size)).mono ?_
      rintro e w3 ⟨rfl, hb3⟩
      go_wp2_with fail
      go_roundw
      case rel => exact ⟨k + 1, by omega, by go_num, hbd.trans (hb3.mono hbd.size)⟩
      case measure => simp [intOf] <;> omega
    · obtain rfl : k = n := by omega
      go_wp2
      go_ret
      exact ⟨rfl, hbel⟩
end Go.Proofs.YtdlddkgmjpmenaaGreatDoor
/-
  The language: the copies of programs that the laws make.
-/
namespace Go.Proofs.YtdlddkgmjpmenaaGreatDoor
open Go.RowKit
set_option linter.unusedVariables false
set_option linter.unusedSimpArgs false

/-- Texts that the call owns. -/
def OwnSt (B : Nat) (w : World) (ao : Option Addr) (n cap : Nat) (ss : List ByteArray) : Prop := ss.length = n ∧ n ≤ 1000000000 ∧ OwnC 9 1 B w ao n cap (ss.map Value.string)
def RetSt (ss : List ByteArray) (w : World) (e : Ending) (w' : World) : Prop := ∃ ao n cap, e = .returned (.slice ao n cap) ∧ OwnSt w.heap.size w' ao n cap ss ∧ Below w.heap.size w w'
section
variable {w w' : World} {B C : Nat} {ao : Option Addr} {n cap : Nat} {ss : List ByteArray}
theorem OwnSt.below (h : OwnSt B w ao n cap ss) (hb : Below C w w') (hC : w.heap.size ≤ C) : OwnSt B w' ao n cap ss := ⟨h.1, h.2.1, h.2.2.below hb hC⟩
theorem OwnSt.strs (h : OwnSt B w ao n cap ss) : Strs w w.heap.size ao n ss := ⟨h.1, h.2.1, h.2.2.cellsAt⟩
theorem OwnSt.up (h : OwnSt B w ao n cap ss) (hC : C ≤ B) : OwnSt C w ao n cap ss := ⟨h.1, h.2.1, h.2.2.up hC⟩
theorem OwnSt.le (h : OwnSt B w ao n cap ss) : n ≤ 1000000000 := h.2.1
theorem OwnSt.rowLt (h : OwnSt B w ao n cap ss) : ∀ k, rowOf ao cap = .some k → B ≤ k ∧ k < w.heap.size := h.2.2.rowLt
theorem OwnSt.nil (B : Nat) (w : World) (ao : Option Addr) : OwnSt B w ao 0 0 [] := ⟨rfl, by decide, OwnC.nil _ _ _ _ _⟩
theorem OwnSt.other {row : Option Nat} (h : OwnSt B w ao n cap ss) (hg : w.grownBy w' row) (hne : ∀ k l, rowOf ao cap = .some k → row = .some l → k ≠ l) : OwnSt B w' ao n cap ss := by
  refine ⟨h.1, h.2.1, h.2.2.kept hg fun g hao hc he => ?_⟩
  subst hao
  exact hne g g (by simp [rowOf, hc]) he rfl
theorem OwnSt.drewN (h : OwnSt B w ao n cap ss) (k : Nat) : OwnSt B (w.drewN k) ao n cap ss := h
end
theorem str_info : (Tryz.prog.info? 9).map (fun i => (i.zero, i.size, i.bytes)) = some (some (.string ⟨#[]⟩), 1, 16) := by kernel_rfl
theorem Line_info : (Tryz.prog.info? 47).map (fun i => (i.zero, i.size, i.bytes)) = some (some (.agg #[.int .i64 0, .string ⟨#[]⟩, .string ⟨#[]⟩, .slice none 0 0, .int .i64 0, .int .i64 0, .int .i64 0]), 7, 88) := by kernel_rfl
theorem blk_set {w : World} {b : Nat} {cs : Array Value} {t : TypeId} (h : w.heap[b]? = some (.cells cs t (0, 0))) (o : Nat) (v : Value) : (w.setCell ⟨b, o, none⟩ v).heap[b]? = some (.cells (cs.setIfInBounds o v) t (0, 0)) := by
  rw [heap_setCell_same w b o _ _ v h]
theorem blk_other {w : World} {b b' : Nat} (hne : b ≠ b') (o : Nat) (v : Value) : (w.setCell ⟨b', o, none⟩ v).heap[b]? = w.heap[b]? :=
  heap_setCell_other w ⟨b', o, none⟩ b v hne
/-- Cells and freedom of a block. -/
theorem blk_at {w : World} {b : Nat} {cs : Array Value} {t : TypeId} (h : w.heap[b]? = some (.cells cs t (0, 0))) (o : Nat) : w.cell? ⟨b, o, none⟩ = cs[o]? ∧ w.frozen? ⟨b, o, none⟩ = false :=
  ⟨cell_of_row w b o cs t (0, 0) h, frozen_of_row w b o _ _ h⟩
def set7 (W : World) (rb off : Nat) (v0 v1 v2 v3 v4 v5 v6 : Value) : World :=
  ((((((W.setCell ⟨rb, off, none⟩ v0).setCell ⟨rb, off + 1, none⟩ v1).setCell ⟨rb, off + 2, none⟩ v2).setCell ⟨rb, off + 3, none⟩ v3).setCell ⟨rb, off + 4, none⟩ v4).setCell ⟨rb, off + 5, none⟩ v5).setCell ⟨rb, off + 6, none⟩ v6
theorem grown_setC (w : World) (a : Addr) (u : Value) : w.grownBy (w.setCell a u) (some a.block) :=
  ⟨rfl, rfl, rfl, by simp, fun k _ hk => heap_setCell_other w a k u (fun e => hk (by rw [e]))⟩
theorem grown_trans {a b c : World} {row : Option Nat} (h : a.grownBy b row) (k : b.grownBy c row) : a.grownBy c row :=
  ⟨k.os.trans h.os, k.tape.trans h.tape, k.output.trans h.output, Nat.le_trans h.size k.size, fun j hj hne => (k.block j (Nat.lt_of_lt_of_le hj h.size) hne).trans (h.block j hj hne)⟩
theorem set7_grown (W : World) (rb off : Nat) (v0 v1 v2 v3 v4 v5 v6 : Value) : W.grownBy (set7 W rb off v0 v1 v2 v3 v4 v5 v6) (some rb) :=
  grown_trans (grown_trans (grown_trans (grown_trans (grown_trans (grown_trans (grown_setC _ ⟨rb, _, none⟩ _) (grown_setC _ ⟨rb, _, none⟩ _)) (grown_setC _ ⟨rb, _, none⟩ _)) (grown_setC _ ⟨rb, _, none⟩ _)) (grown_setC _ ⟨rb, _, none⟩ _)) (grown_setC _ ⟨rb, _, none⟩ _)) (grown_setC _ ⟨rb, _, none⟩ _)
theorem stored7 {W : World} {rb : Nat} {a b c d e f g : Value} {t : TypeId} (h : W.heap[rb]? = some (.cells #[a, b, c, d, e, f, g] t (0, 0))) (v0 v1 v2 v3 v4 v5 v6 : Value) :
    (set7 W rb 0 v0 v1 v2 v3 v4 v5 v6).heap[rb]? = some (.cells #[v0, v1, v2, v3, v4, v5, v6] t (0, 0)) := by
  have q := blk_set (blk_set (blk_set (blk_set (blk_set (blk_set (blk_set h 0 v0) 1 v1) 2 v2) 3 v3) 4 v4) 5 v5) 6 v6
  simp at q
  simpa [set7] using q
/-- What the copy of a line is. -/
def RetLn (l : Ln) (w : World) (e : Ending) (w' : World) : Prop := ∃ po pc, e = .returned (lineV l po pc) ∧ OwnSt w.heap.size w' po l.parts.length pc l.parts ∧ Below w.heap.size w w'
end Go.Proofs.YtdlddkgmjpmenaaGreatDoor
/-
  The language: the copies of programs that the laws make: all lines.
-/
namespace Go.Proofs.YtdlddkgmjpmenaaGreatDoor
open Go.RowKit
set_option linter.unusedVariables false
set_option linter.unusedSimpArgs false

def PartsOK (g : Nat) (w : World) (ls : List Ln) (hs : List (Option Addr × Nat)) : Prop := ∀ (k : Nat) (l : Ln) (h : Option Addr × Nat), ls[k]? = some l → hs[k]? = some h → OwnSt (g + 1) w h.1 l.parts.length h.2 l.parts
/-- A program that the call owns: its lines lie in block g, its parts behind it. -/
def OwnL (g : Nat) (w : World) (n : Nat) (ls : List Ln) : Prop := ls.length = n ∧ n ≤ 1000000000 ∧ g < w.heap.size ∧ ∃ hs : List (Option Addr × Nat), hs.length = n ∧ w.ownsRow g 47 7 (.slice (some ⟨g, 0, none⟩) n n) n (linesCells ls hs) ∧ PartsOK g w ls hs
def RetL (ls : List Ln) (w : World) (e : Ending) (w' : World) : Prop := e = .returned (.slice (some ⟨w.heap.size, 0, none⟩) ls.length ls.length) ∧ OwnL w.heap.size w' ls.length ls ∧ Below w.heap.size w w'
theorem PartsOK.below {g C : Nat} {w w' : World} {ls : List Ln} {hs : List (Option Addr × Nat)} (h : PartsOK g w ls hs) (hb : Below C w w') (hC : w.heap.size ≤ C) : PartsOK g w' ls hs :=
  fun k l x a b => (h k l x a b).below hb hC
theorem OwnL.below {g C : Nat} {w w' : World} {n : Nat} {ls : List Ln} (h : OwnL g w n ls) (hb : Below C w w') (hC : w.heap.size ≤ C) : OwnL g w' n ls := by
  obtain ⟨h1, h2, h3, hs, h4, h5, h6⟩ := h
  exact ⟨h1, h2, Nat.lt_of_lt_of_le h3 hb.size, hs, h4, ownsRow_below h5 hb hC, h6.below hb hC⟩
theorem OwnL.lns {g : Nat} {w : World} {n : Nat} {ls : List Ln} (h : OwnL g w n ls) : Lns w w.heap.size (some ⟨g, 0, none⟩) n ls := by
  obtain ⟨h1, h2, h3, hs, h4, h5, h6⟩ := h
  refine ⟨h1, h2, hs, h4, .inr ⟨g, 0, rfl, h3, fun j u hu => ?_⟩, fun k l x a b => (h6 k l x a b).strs⟩
  have hj : j < (linesCells ls hs).length := (List.getElem?_eq_some_iff.1 hu).1
  rw [Nat.zero_add, World.ownsRow.cellAt h5 j (by rw [← h5.1]; exact hj)]
  exact hu
theorem linesCells_length : ∀ (ls : List Ln) (hs : List (Option Addr × Nat)), ls.length = hs.length → (linesCells ls hs).length = ls.length * 7
  | [], [], _ => rfl
  | [], _ :: _, h => by simp at h
  | _ :: _, [], h => by simp at h
  | l :: ls, h :: hs, e => by
    rw [linesCells, List.length_append, linesCells_length ls hs (by simpa using e), List.length_cons]
    show 7 + _ = _
    omega
theorem linesCells_snoc : ∀ (ls : List Ln) (hs : List (Option Addr × Nat)) (l : Ln) (h : Option Addr × Nat), ls.length = hs.length → linesCells (ls ++ [l]) (hs ++ [h]) = linesCells ls hs ++ lineCells l h
  | [], [], l, h, _ => by simp [linesCells]
  | [], _ :: _, _, _, h => by simp at h
  | _ :: _, [], _, _, h => by simp at h
  | x :: ls, y :: hs, l, h, e => by
    rw [List.cons_append, List.cons_append, linesCells, linesCells, linesCells_snoc ls hs l h (by simpa using e), List.append_assoc]
theorem set_seven {α : Type} (P D : List α) (off : Nat) (hP : P.length = off) (hD : 7 ≤ D.length) (v0 v1 v2 v3 v4 v5 v6 : α) :
    (((((((P ++ D).set off v0).set (off + 1) v1).set (off + 2) v2).set (off + 3) v3).set (off + 4) v4).set (off + 5) v5).set (off + 6) v6 = P ++ [v0, v1, v2, v3, v4, v5, v6] ++ D.drop 7 := by
  subst hP
  match D, hD with
  | a :: b :: c :: d :: e :: f :: g :: D, _ =>
    simp only [List.set_append_right _ _ (Nat.le_refl _), List.set_append_right _ _ (Nat.le_add_right _ _), Nat.sub_self, Nat.add_sub_cancel_left]
    simp
  | [], h => simp at h
  | [_], h => simp at h
  | [_, _], h => simp at h
  | [_, _, _], h => simp at h
  | [_, _, _, _], h => simp at h
  | [_, _, _, _, _], h => simp at h
  | [_, _, _, _, _, _], h => simp at h
theorem stored_seven {B g n cap : Nat} {w : World} {e : TypeId} {cs : List Value} (h : w.ownsRow B e 7 (.slice (some ⟨g, 0, none⟩) n cap) n cs) (off : Nat) (v0 v1 v2 v3 v4 v5 v6 : Value) :
    (set7 w g off v0 v1 v2 v3 v4 v5 v6).ownsRow B e 7 (.slice (some ⟨g, 0, none⟩) n cap) n (((((((cs.set off v0).set (off + 1) v1).set (off + 2) v2).set (off + 3) v3).set (off + 4) v4).set (off + 5) v5).set (off + 6) v6) :=
  (World.ownsRow.stored (World.ownsRow.stored (World.ownsRow.stored (World.ownsRow.stored (World.ownsRow.stored (World.ownsRow.stored (World.ownsRow.stored h off v0).1 (off + 1) v1).1 (off + 2) v2).1 (off + 3) v3).1 (off + 4) v4).1 (off + 5) v5).1 (off + 6) v6).1
theorem PartsOK.grown {g : Nat} {w w' : World} {ls : List Ln} {hs : List (Option Addr × Nat)} (h : PartsOK g w ls hs) (hg : w.grownBy w' (some g)) : PartsOK g w' ls hs :=
  fun k l x a b => (h k l x a b).other hg fun p q hp hq => by have := (h k l x a b).rowLt p hp; simp at hq; omega
theorem PartsOK.snoc {g : Nat} {w : World} {ls : List Ln} {hs : List (Option Addr × Nat)} {l : Ln} {x : Option Addr × Nat} (h : PartsOK g w ls hs) (hl : ls.length = hs.length) (hx : OwnSt (g + 1) w x.1 l.parts.length x.2 l.parts) : PartsOK g w (ls ++ [l]) (hs ++ [x]) := by
  intro k y z a b
  by_cases hk : k < ls.length
  · rw [List.getElem?_append_left hk] at a
    rw [List.getElem?_append_left (by omega)] at b
    exact h k y z a b
  · rw [List.getElem?_append_right (by omega)] at a
    rw [List.getElem?_append_right (by omega), ← hl] at b
    rcases Nat.eq_zero_or_pos (k - ls.length) with h0 | h0
    · rw [h0] at a b
      simp at a b
      subst a
      subst b
      exact hx
    · rw [List.getElem?_eq_none (by simp; omega)] at a
      cases a
end Go.Proofs.YtdlddkgmjpmenaaGreatDoor
