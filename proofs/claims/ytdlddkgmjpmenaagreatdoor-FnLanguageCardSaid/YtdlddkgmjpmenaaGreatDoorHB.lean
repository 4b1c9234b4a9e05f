/-
  Small laws of my own on slices as lists, whatever the program: what a slice reads as (Ints), what a call owns (OwnI), and how both are carried from world to world.
-/
import Derived.Test.YtdlddkgmjpmenaaGreatDoorChecked
import Derived.WalkKit
import Derived.WalkSpells
import Derived.WalkLawsBesides
import Derived.Outline
import Derived.Lib.Hide
import Derived.BigQuiet
import Derived.Deep.QuietTactic
import Derived.Deep.LoopGhost
import Derived.Deep.MidRow
import Derived.Deep.SlicePairs
import Derived.Deep.Strs
import Derived.StillTailTactics
namespace Go.Proofs.YtdlddkgmjpmenaaGreatDoor
open Go.RowKit

theorem ret_int {k : IntKind} {a b : Int} (h : a = b) : Ending.returned (.int k a) = .returned (.int k b) := by rw [h]
theorem ret_bool {a b : Bool} (h : a = b) : Ending.returned (.bool a) = .returned (.bool b) := by rw [h]

/-- The cells cs lie behind the address ao, in a block below B. -/
def CellsAt (w : World) (B : Nat) (ao : Option Addr) (cs : List Value) : Prop :=
  cs = [] ∨ ∃ b off, ao = some ⟨b, off, none⟩ ∧ b < B ∧ ∀ j u, cs[j]? = some u → w.cell? ⟨b, off + j, none⟩ = some u
/-- A slice of n ints at the address ao reads as xs. -/
def Ints (w : World) (B : Nat) (ao : Option Addr) (n : Nat) (xs : List Int) : Prop := xs.length = n ∧ n ≤ 1000000000 ∧ CellsAt w B ao (xs.map (Value.int .i64))
/-- The same of an argument of a law, whose length is not bounded yet. -/
def IntsArg (w : World) (ao : Option Addr) (n : Nat) (xs : List Int) : Prop := xs.length = n ∧ n ≤ maxLen ∧ CellsAt w w.heap.size ao (xs.map (Value.int .i64))
theorem IntsArg.ints {w : World} {ao : Option Addr} {n : Nat} {xs : List Int} (h : IntsArg w ao n xs) (hn : n ≤ 1048576) : Ints w w.heap.size ao n xs := ⟨h.1, by omega, h.2.2⟩
/-- A slice value of n elements that the call owns, from block B on: its cells (of element type e, size cells each). A slice without room (nil, or cut to nothing) may point anywhere. -/
def OwnC (e : TypeId) (size : Nat) (B : Nat) (w : World) (ao : Option Addr) (n cap : Nat) (cs : List Value) : Prop :=
  (cs = [] ∧ n = 0 ∧ cap = 0) ∨ ∃ g, ao = some ⟨g, 0, none⟩ ∧ w.ownsRow B e size (.slice (some ⟨g, 0, none⟩) n cap) n cs
/-- The same for ints. -/
def OwnI (B : Nat) (w : World) (ao : Option Addr) (n cap : Nat) (xs : List Int) : Prop := xs.length = n ∧ n ≤ 1000000000 ∧ OwnC 3 1 B w ao n cap (xs.map (Value.int .i64))
/-- The block that an append to such a slice may write. -/
def rowOf (ao : Option Addr) (cap : Nat) : Option Nat := if cap = 0 then none else ao.map (·.block)

theorem CellsAt.below {w w' : World} {B C : Nat} {ao : Option Addr} {cs : List Value} (h : CellsAt w B ao cs) (hb : Below C w w') (hC : B ≤ C) : CellsAt w' B ao cs := by
  rcases h with h | ⟨b, off, rfl, hlt, h⟩
  · exact .inl h
  · exact .inr ⟨b, off, rfl, hlt, fun j u hu => (hb.cell (p := ⟨b, off + j, none⟩) (by exact Nat.lt_of_lt_of_le hlt hC)).trans (h j u hu)⟩
theorem CellsAt.up {w : World} {B C : Nat} {ao : Option Addr} {cs : List Value} (h : CellsAt w B ao cs) (hC : B ≤ C) : CellsAt w C ao cs := by
  rcases h with h | ⟨b, off, rfl, hlt, h⟩
  · exact .inl h
  · exact .inr ⟨b, off, rfl, Nat.lt_of_lt_of_le hlt hC, h⟩
theorem Ints.below {w w' : World} {B C : Nat} {ao : Option Addr} {n : Nat} {xs : List Int} (h : Ints w B ao n xs) (hb : Below C w w') (hC : B ≤ C) : Ints w' B ao n xs := ⟨h.1, h.2.1, h.2.2.below hb hC⟩
theorem Ints.up {w : World} {B C : Nat} {ao : Option Addr} {n : Nat} {xs : List Int} (h : Ints w B ao n xs) (hC : B ≤ C) : Ints w C ao n xs := ⟨h.1, h.2.1, h.2.2.up hC⟩
theorem Ints.len {w : World} {B : Nat} {ao : Option Addr} {n : Nat} {xs : List Int} (h : Ints w B ao n xs) : xs.length = n := h.1
theorem Ints.le {w : World} {B : Nat} {ao : Option Addr} {n : Nat} {xs : List Int} (h : Ints w B ao n xs) : n ≤ 1000000000 := h.2.1
/-- Element k: the address is no nil; the cell. -/
theorem Ints.at {w : World} {B : Nat} {ao : Option Addr} {n : Nat} {xs : List Int} (h : Ints w B ao n xs) {k : Nat} (hk : k < n) :
    ∃ b off x, ao = some ⟨b, off, none⟩ ∧ b < B ∧ xs[k]? = some x ∧ w.cell? ⟨b, off + k, none⟩ = some (.int .i64 x) := by
  obtain ⟨rfl, _, h⟩ := h
  rcases h with h | ⟨b, off, rfl, hlt, h⟩
  · simp at h; subst h; simp at hk
  · exact ⟨b, off, xs[k], rfl, hlt, by simp [hk], h k _ (by simp [hk])⟩
/-- Element k, the address known. -/
theorem Ints.at' {w : World} {B b off : Nat} {n : Nat} {xs : List Int} (h : Ints w B (some ⟨b, off, none⟩) n xs) {k : Nat} (hk : k < n) :
    ∃ x, xs[k]? = some x ∧ w.cell? ⟨b, off + k, none⟩ = some (.int .i64 x) := by
  obtain ⟨b', off', x, h1, _, h2, h3⟩ := h.at hk
  simp at h1
  obtain ⟨rfl, rfl⟩ := h1
  exact ⟨x, h2, h3⟩

theorem ownsRow_below {w w' : World} {C : Nat} {B : Nat} {e : TypeId} {size : Nat} {v : Value} {n : Nat} {cs : List Value} (h : w.ownsRow B e size v n cs) (hb : Below C w w') (hC : w.heap.size ≤ C) : w'.ownsRow B e size v n cs := by
  refine ⟨h.1, ?_⟩
  rcases h.2 with hn | ⟨g, cap', cur, hv, hg, hh, r⟩
  · exact .inl hn
  · exact .inr ⟨g, cap', cur, hv, hg, by rw [hb.block g (Nat.lt_of_lt_of_le (lt_of_block hh) hC)]; exact hh, r⟩
theorem OwnC.below {e : TypeId} {size B C : Nat} {w w' : World} {ao : Option Addr} {n cap : Nat} {cs : List Value} (h : OwnC e size B w ao n cap cs) (hb : Below C w w') (hC : w.heap.size ≤ C) : OwnC e size B w' ao n cap cs := by
  rcases h with h | ⟨g, hg, h⟩
  · exact .inl h
  · exact .inr ⟨g, hg, ownsRow_below h hb hC⟩
theorem OwnI.below {B C : Nat} {w w' : World} {ao : Option Addr} {n cap : Nat} {xs : List Int} (h : OwnI B w ao n cap xs) (hb : Below C w w') (hC : w.heap.size ≤ C) : OwnI B w' ao n cap xs := ⟨h.1, h.2.1, h.2.2.below hb hC⟩
theorem OwnC.len {e : TypeId} {size B : Nat} {w : World} {ao : Option Addr} {n cap : Nat} {cs : List Value} (h : OwnC e size B w ao n cap cs) : cs.length = n * size := by
  rcases h with ⟨rfl, rfl, _⟩ | ⟨g, _, h⟩
  · simp
  · exact h.1
/-- What is owned can be read. -/
theorem OwnC.cellsAt {e : TypeId} {size B : Nat} {w : World} {ao : Option Addr} {n cap : Nat} {cs : List Value} (h : OwnC e size B w ao n cap cs) : CellsAt w w.heap.size ao cs := by
  rcases h with ⟨rfl, _⟩ | ⟨g, rfl, h⟩
  · exact .inl rfl
  · refine .inr ⟨g, 0, rfl, (World.ownsRow.lt h g rfl).2, fun j u hu => ?_⟩
    have := World.ownsRow.cells h (g := g) rfl j u hu
    rw [Addr.add_lit] at this
    simpa using this
theorem OwnI.ints {B : Nat} {w : World} {ao : Option Addr} {n cap : Nat} {xs : List Int} (h : OwnI B w ao n cap xs) : Ints w w.heap.size ao n xs := ⟨h.1, h.2.1, h.2.2.cellsAt⟩
/-- A slice that is not empty: its block. -/
theorem OwnC.some {e : TypeId} {size B : Nat} {w : World} {ao : Option Addr} {n cap : Nat} {cs : List Value} (h : OwnC e size B w ao n cap cs) (hn : 0 < n) :
    ∃ g, ao = some ⟨g, 0, none⟩ ∧ B ≤ g ∧ g < w.heap.size ∧ w.ownsRow B e size (.slice (some ⟨g, 0, none⟩) n cap) n cs := by
  rcases h with ⟨_, h0, _⟩ | ⟨g, rfl, h⟩
  · omega
  · exact ⟨g, rfl, (World.ownsRow.lt h g rfl).1, (World.ownsRow.lt h g rfl).2, h⟩
theorem OwnC.nil (e : TypeId) (size B : Nat) (w : World) (ao : Option Addr) : OwnC e size B w ao 0 0 [] := .inl ⟨rfl, rfl, rfl⟩
theorem OwnI.nil (B : Nat) (w : World) (ao : Option Addr) : OwnI B w ao 0 0 [] := ⟨rfl, by decide, OwnC.nil _ _ _ _ _⟩
theorem OwnC.up {e : TypeId} {size B C : Nat} {w : World} {ao : Option Addr} {n cap : Nat} {cs : List Value} (h : OwnC e size B w ao n cap cs) (hC : C ≤ B) : OwnC e size C w ao n cap cs := by
  rcases h with h | ⟨g, hg, h1, h2⟩
  · exact .inl h
  · refine .inr ⟨g, hg, h1, ?_⟩
    rcases h2 with h2 | ⟨g', cap', cur, e1, e2, r⟩
    · exact .inl h2
    · exact .inr ⟨g', cap', cur, e1, Nat.le_trans hC e2, r⟩
theorem OwnI.up {B C : Nat} {w : World} {ao : Option Addr} {n cap : Nat} {xs : List Int} (h : OwnI B w ao n cap xs) (hC : C ≤ B) : OwnI C w ao n cap xs := ⟨h.1, h.2.1, h.2.2.up hC⟩
/-- Only another row has turned. -/
theorem OwnC.kept {e : TypeId} {size B : Nat} {w w' : World} {ao : Option Addr} {n cap : Nat} {cs : List Value} {row : Option Nat} (h : OwnC e size B w ao n cap cs) (hg : w.grownBy w' row) (hne : ∀ g, ao = .some ⟨g, 0, none⟩ → cap ≠ 0 → row ≠ .some g) : OwnC e size B w' ao n cap cs := by
  rcases h with h | ⟨g, rfl, h⟩
  · exact .inl h
  · by_cases hc : cap = 0
    · left
      subst hc
      rcases h.2 with ⟨hv, h0⟩ | ⟨g', cap', cur, hv, _, _, hn, _⟩
      · simp at hv
      · simp only [Value.slice.injEq] at hv
        obtain ⟨_, _, rfl⟩ := hv
        obtain rfl : n = 0 := by omega
        have := h.1
        simp at this
        exact ⟨this, rfl, rfl⟩
    · exact .inr ⟨g, rfl, World.ownsRow.kept h hg (.inr (fun he => hne g rfl hc he.symm))⟩
theorem OwnI.le {B : Nat} {w : World} {ao : Option Addr} {n cap : Nat} {xs : List Int} (h : OwnI B w ao n cap xs) : n ≤ 1000000000 := h.2.1
theorem OwnI.rowLt {B : Nat} {w : World} {ao : Option Addr} {n cap : Nat} {xs : List Int} (h : OwnI B w ao n cap xs) : ∀ k, rowOf ao cap = .some k → B ≤ k ∧ k < w.heap.size := by
  intro k hk
  unfold rowOf at hk
  split at hk
  · cases hk
  · rename_i hc
    rcases h.2.2 with ⟨_, _, h0⟩ | ⟨g, rfl, h0⟩
    · exact absurd h0 hc
    · simp at hk; subst hk; exact World.ownsRow.lt h0 g rfl
/-- Behind a write to another owned row. -/
theorem OwnI.other {B : Nat} {w w' : World} {ao : Option Addr} {n cap : Nat} {xs : List Int} {row : Option Nat} (h : OwnI B w ao n cap xs) (hg : w.grownBy w' row) (hne : ∀ k l, rowOf ao cap = .some k → row = .some l → k ≠ l) : OwnI B w' ao n cap xs := by
  refine ⟨h.1, h.2.1, h.2.2.kept hg fun g hao hc he => ?_⟩
  subst hao
  exact hne g g (by simp [rowOf, hc]) he rfl
theorem OwnI.kept {B : Nat} {w w' : World} {ao : Option Addr} {n cap : Nat} {xs : List Int} {row : Option Nat} (h : OwnI B w ao n cap xs) (hg : w.grownBy w' row) (hne : ∀ g, ao = .some ⟨g, 0, none⟩ → cap ≠ 0 → row ≠ .some g) : OwnI B w' ao n cap xs := ⟨h.1, h.2.1, h.2.2.kept hg hne⟩
theorem OwnC.rowLt {e : TypeId} {size B : Nat} {w : World} {ao : Option Addr} {n cap : Nat} {cs : List Value} (h : OwnC e size B w ao n cap cs) : ∀ k, rowOf ao cap = .some k → B ≤ k ∧ k < w.heap.size := by
  intro k hk
  unfold rowOf at hk
  split at hk
  · cases hk
  · rename_i hc
    rcases h with ⟨_, _, h⟩ | ⟨g, rfl, h⟩
    · exact absurd h hc
    · simp at hk; subst hk; exact World.ownsRow.lt h g rfl
theorem ofInt_i64 (a : Nat) (ha : a < 9223372036854775808) : (BitVec.ofInt 64 (a : Int)).toNat = a := by
  rw [BitVec.ofInt_natCast, BitVec.toNat_ofNat]; exact Nat.mod_eq_of_lt (by omega)
theorem i64_and_nat (a b : Nat) (ha : a < 9223372036854775808) (hb : b < 9223372036854775808) : bits .and .i64 (a : Int) (b : Int) = ((a &&& b : Nat) : Int) := by
  have hx : a &&& b < 2 ^ 63 := Nat.and_lt_two_pow _ (by omega)
  show IntKind.i64.wrap ((BitVec.ofInt 64 (a : Int) &&& BitVec.ofInt 64 (b : Int)).toNat : Int) = _
  rw [BitVec.toNat_and, ofInt_i64 a ha, ofInt_i64 b hb, IntKind.wrap_i64]
  omega
theorem i64_or_nat (a b : Nat) (ha : a < 9223372036854775808) (hb : b < 9223372036854775808) : bits .or .i64 (a : Int) (b : Int) = ((a ||| b : Nat) : Int) := by
  have hx : a ||| b < 2 ^ 63 := Nat.or_lt_two_pow (by omega) (by omega)
  show IntKind.i64.wrap ((BitVec.ofInt 64 (a : Int) ||| BitVec.ofInt 64 (b : Int)).toNat : Int) = _
  rw [BitVec.toNat_or, ofInt_i64 a ha, ofInt_i64 b hb, IntKind.wrap_i64]
  omega
theorem i64_xor_nat (a b : Nat) (ha : a < 9223372036854775808) (hb : b < 9223372036854775808) : bits .xor .i64 (a : Int) (b : Int) = ((a ^^^ b : Nat) : Int) := by
  have hx : a ^^^ b < 2 ^ 63 := Nat.xor_lt_two_pow (by omega) (by omega)
  show IntKind.i64.wrap ((BitVec.ofInt 64 (a : Int) ^^^ BitVec.ofInt 64 (b : Int)).toNat : Int) = _
  rw [BitVec.toNat_xor, ofInt_i64 a ha, ofInt_i64 b hb, IntKind.wrap_i64]
  omega

theorem quiet_add_left {P : Program} {f : FuncId} {args : Array Value} {w : World} {a n : Nat} {v : Value}
    (h : Calls P f args (w.drewN (a + n)) fun e w' => e = .returned v ∧ w.drewN (a + n) = w') : Calls P f args (w.drewN (a + n)) fun e w'' => e = .returned v ∧ ∃ m, w'' = w.drewN (a + m) :=
  h.mono fun _ _ ⟨he, hm⟩ => ⟨he, n, hm.symm⟩
theorem quiet_left {P : Program} {f : FuncId} {args : Array Value} {w : World} {n : Nat} {v : Value}
    (h : Calls P f args (w.drewN n) fun e w' => e = .returned v ∧ w.drewN n = w') : Calls P f args (w.drewN n) fun e w'' => e = .returned v ∧ ∃ m, w'' = w.drewN m :=
  h.mono fun _ _ ⟨he, hm⟩ => ⟨he, n, hm.symm⟩
theorem CellsAt.drewN {w : World} {B : Nat} {ao : Option Addr} {cs : List Value} (h : CellsAt w B ao cs) (n : Nat) : CellsAt (w.drewN n) B ao cs := h
theorem Ints.drewN {w : World} {B : Nat} {ao : Option Addr} {n : Nat} {xs : List Int} (h : Ints w B ao n xs) (k : Nat) : Ints (w.drewN k) B ao n xs := h

theorem bdrewN {B : Nat} {a w : World} (h : Below B a w) (n : Nat) : Below B a (w.drewN n) := ⟨h.os, h.tape, h.output, h.size, h.block⟩

theorem int_info : (Tryz.prog.info? 3).map (fun i => (i.zero, i.size, i.bytes)) = some (some (.int .i64 0), 1, 8) := by kernel_rfl


/-- 'append', whatever the slice that the call owns (nil, without room, with room) and whatever is appended. -/
theorem run_append_any {P : Program} (w : World) (t ty e : TypeId) (i : TypeInfo) (z : Value) (size bytes : Nat) (ht : P.underlying t = some (.slice e)) (hi : P.info? e = some i) (hz : i.zero = some z)
    (hsize : i.size = size) (hby : i.bytes = bytes) (hzs : z.cells.size = size) (hsz : 0 < size)
    (B : Nat) (ao : Option Addr) (n cap : Nat) (cs : List Value) (hown : OwnC e size B w ao n cap cs)
    (C : Nat) (xo : Option Addr) (m c : Nat) (news : List Value) (hl : news.length = m * size) (hx : CellsAt w C xo news) (h1 : ∀ u ∈ news, u.oneCell' = true)
    (h63 : n + m ≤ maxLen) (hbytes : (n + m) * bytes ≤ 140737488355328) (hbase : B ≤ w.heap.size) :
    ∃ ao' cap' w', (Builtin.append_ #[t, t] ty #[.slice ao n cap, .slice xo m c]).run P w = .ok (.slice ao' (n + m) cap') w' ∧ OwnC e size B w' ao' (n + m) cap' (cs ++ news) ∧ w.grownBy w' (rowOf ao cap) := by
  rcases Nat.eq_zero_or_pos m with rfl | hm
  · have hnews : news = [] := List.eq_nil_of_length_eq_zero (by simpa using hl)
    subst hnews
    have hnc : n ≤ cap := by
      rcases hown with ⟨_, rfl, rfl⟩ | ⟨g, rfl, h⟩
      · exact Nat.le_refl _
      · rcases h.2 with ⟨hv, h0⟩ | ⟨g', cap', cur, hv, _, _, hn, _⟩
        · omega
        · simp only [Value.slice.injEq] at hv
          obtain ⟨_, _, rfl⟩ := hv
          exact hn
    refine ⟨ao, cap, w, ?_, by simpa using hown, World.grownBy.refl _ _⟩
    cases ao <;> cases xo <;> simp [Builtin.append_, run_underlying ht, sizeOf, typeInfo, hi, Builtin.lenOf, Builtin.firstCells, hnc, storeCells, loadCells, loadCellsFrom]
  · rcases hx with hx0 | ⟨b, off, rfl, hlt, hx⟩
    · rw [hx0] at hl
      have h0 : m * size = 0 := by simpa using hl.symm
      rcases Nat.mul_eq_zero.1 h0 with h | h <;> omega
    have hnews : ∀ j u, news[j]? = some u → w.cell? ((⟨b, off, none⟩ : Addr).add j) = some u := by
      intro j u hu
      rw [Addr.add_lit]
      exact hx j u hu
    rcases hown with ⟨rfl, rfl, rfl⟩ | ⟨g, rfl, h⟩
    · subst hsize
      subst hby
      have hge := grownCap_ge w (0 + m) 0 e
      have hcm : grownCap w (0 + m) 0 e ≤ maxLen := grownCap_le_maxLen w (0 + m) 0 e h63
      have h63' : ((0 + m : Nat) : Int) ≤ 9223372036854775807 := by simp only [maxLen] at h63; omega
      have G : OwnC e i.size B (w.drew.alloc (.cells (([] : List Value).toArray ++ news.toArray ++ Builtin.zeroCells z.cells (grownCap w (0 + m) 0 e - (0 + m))) e)) (some ⟨w.heap.size, 0, none⟩) (0 + m) (grownCap w (0 + m) 0 e) ([] ++ news) := by
        refine .inr ⟨_, rfl, by simpa using hl, .inr ⟨w.heap.size, _, _, rfl, hbase, heap_alloc_new w.drew _, hge, hcm, ?_, ?_⟩⟩
        · simp only [Array.size_append, List.size_toArray, size_zeroCells, hzs, hl, List.length_nil]
          rw [Nat.zero_add, ← Nat.add_mul]
          congr 1
          omega
        · simp only [Array.toList_append, List.nil_append, Nat.zero_add]
          rw [← hl]
          exact List.take_left
      have Gr : w.grownBy (w.drew.alloc (.cells (([] : List Value).toArray ++ news.toArray ++ Builtin.zeroCells z.cells (grownCap w (0 + m) 0 e - (0 + m))) e)) (rowOf ao 0) := ⟨rfl, rfl, rfl, by simp, fun k hk _ => Below.heap_alloc w.drew _ k hk⟩
      cases ao with
      | none =>
        have hr := run_append_nil (P := P) w t ty e i z ht hi hz ⟨b, off, none⟩ m c news hl hnews hm (by omega) (by have hb := hbytes; simp only [Nat.zero_add] at hb; omega)
        refine ⟨_, _, _, ?_, G, Gr⟩
        simpa using hr
      | some a0 =>
        have hr := run_append_grow (P := P) w t ty e i z ht hi hz a0 0 0 [] (by simp) (by simp) ⟨b, off, none⟩ m c news hl hnews (by omega) h63' (growslice_fits (by omega) hbytes)
        exact ⟨_, _, _, hr, G, Gr⟩
    · obtain ⟨v', w', hr, hown', hg, hnil⟩ := run_append_own (P := P) w B t ty e i z size bytes ht hi hz hsize hby hzs hsz _ n cs h ⟨b, off, none⟩ m c news hl hnews h1 h63 hbytes hbase
      have hcap : cap ≠ 0 ∨ rowOf (some ⟨g, 0, none⟩) cap = none := by
        by_cases hc : cap = 0
        · exact .inr (by simp [rowOf, hc])
        · exact .inl hc
      rcases hown'.2 with ⟨rfl, h0⟩ | ⟨g', cap', cur, rfl, r⟩
      · exact absurd h0 (by omega)
      · refine ⟨_, _, _, hr, .inr ⟨g', rfl, hown'⟩, ?_⟩
        by_cases hc : cap = 0
        · subst hc
          refine ⟨hg.os, hg.tape, hg.output, hg.size, fun k hk _ => ?_⟩
          by_cases hkg : k = g
          · have hg0 : n = 0 := by
              rcases h.2 with ⟨hv, h0⟩ | ⟨g2, cap2, cur2, hv, _, _, hn, _⟩
              · exact h0
              · simp only [Value.slice.injEq] at hv
                obtain ⟨_, _, rfl⟩ := hv
                omega
            subst hg0
            have hcs : cs = [] := List.eq_nil_of_length_eq_zero (by simpa using h.1)
            subst hcs
            subst hsize
            subst hby
            have h63' : ((0 + m : Nat) : Int) ≤ 9223372036854775807 := by simp only [maxLen] at h63; omega
            have hr2 := run_append_grow (P := P) w t ty e i z ht hi hz ⟨g, 0, none⟩ 0 0 [] (by simp) (by simp) ⟨b, off, none⟩ m c news hl hnews (by omega) h63' (growslice_fits (by omega) hbytes)
            rw [hr] at hr2
            simp only [Result.ok.injEq] at hr2
            rw [hr2.2]
            exact Below.heap_alloc w.drew _ k hk
          · exact hg.block k hk (by simp [Value.ownBlock, hkg])
        · have : rowOf (some ⟨g, 0, none⟩) cap = Value.ownBlock (.slice (some ⟨g, 0, none⟩) n cap) := by simp [rowOf, hc, Value.ownBlock]
          rw [this]; exact hg

theorem wpList_append_any {P : Program} {w : World} {ops : Array Oper} {rest : List Oper} {o : Oper} {a : Act} {Q : Exit → Act → World → Prop} (hgd : o.guard = none) (s x : Operand) (t e : TypeId) (z : Value) (size bytes : Nat)
    (ht : P.underlying t = some (.slice e)) (hi : (P.info? e).map (fun i => (i.zero, i.size, i.bytes)) = some (some z, size, bytes)) (hzs : z.cells.size = size) (hsz : 0 < size)
    (ho : o.op = .call { callee := .builtin .append, args := #[s, x], argTypes := #[t, t] })
    (B : Nat) (ao : Option Addr) (n cap : Nat) (cs : List Value) (hs : a.eval s = .slice ao n cap) (hown : OwnC e size B w ao n cap cs)
    (C : Nat) (xo : Option Addr) (m c : Nat) (news : List Value) (hx : a.eval x = .slice xo m c) (hl : news.length = m * size) (hc : CellsAt w C xo news) (h1 : ∀ u ∈ news, u.oneCell' = true)
    (hby : bytes ≤ 128) (hn : n + m < 1000000000000) (hB : B ≤ w.heap.size)
    (h : ∀ ao' cap' w', OwnC e size B w' ao' (n + m) cap' (cs ++ news) → w.grownBy w' (rowOf ao cap) → wpList P ops Q rest (a.put o.dst (.slice ao' (n + m) cap')) w') : wpList P ops Q (o :: rest) a w := by
  obtain ⟨i, hi1, hi2, hi3, hi4⟩ := info_parts hi
  have hb2 : (n + m) * bytes ≤ 140737488355328 := by
    have : (n + m) * bytes ≤ (n + m) * 128 := Nat.mul_le_mul_left _ hby
    omega
  obtain ⟨ao', cap', w', hr, h2, h3⟩ := run_append_any (P := P) w t o.type e i z size bytes ht hi1 hi2 hi3 hi4 hzs hsz B ao n cap cs hown C xo m c news hl hc h1 (by unfold maxLen; omega) hb2 hB
  refine wpList_plain hgd fun K hK => ?_
  unfold Oper.wp execOp
  simp only [ho, resolve, invoke, builtin, Sem.run_bind, Sem.run_pure, Result.andThen_ok, List.map_toArray, List.map_cons, List.map_nil, hs, hx, hr]
  exact hK _ _ (h ao' cap' w' h2 h3)

theorem cellsAt_new (w : World) (cs : List Value) (e : TypeId) : CellsAt (w.alloc (.cells cs.toArray e)) (w.heap.size + 1) (some ⟨w.heap.size, 0, none⟩) cs := by
  refine .inr ⟨w.heap.size, 0, rfl, Nat.lt_succ_self _, fun j u hu => ?_⟩
  rw [Nat.zero_add, cell_of_row _ w.heap.size j cs.toArray e (0, 0) (heap_alloc_new w _)]
  simpa using hu
theorem grownBy_old {w w' : World} {o : Obj} {row : Option Nat} (h : (w.alloc o).grownBy w' row) : w.grownBy w' row :=
  ⟨h.os, h.tape, h.output, Nat.le_trans (by simp) h.size, fun k hk hne => (h.block k (by simp; omega) hne).trans (Below.heap_alloc w o k hk)⟩
theorem OwnC.alloc {e : TypeId} {size B : Nat} {w : World} {ao : Option Addr} {n cap : Nat} {cs : List Value} (h : OwnC e size B w ao n cap cs) (o : Obj) : OwnC e size B (w.alloc o) ao n cap cs :=
  h.below ((Below.refl w.heap.size w).alloc (Nat.le_refl _) o) (Nat.le_refl _)

/-- 'append(out, x, y ..)' of values of one cell each, behind the block that bears them. -/
theorem wpList_append_new {P : Program} {w : World} {ops : Array Oper} {rest : List Oper} {o : Oper} {a : Act} {Q : Exit → Act → World → Prop} (hgd : o.guard = none) (s x : Operand) (t e : TypeId) (z : Value) (size bytes : Nat)
    (ht : P.underlying t = some (.slice e)) (hi : (P.info? e).map (fun i => (i.zero, i.size, i.bytes)) = some (some z, size, bytes)) (hzs : z.cells.size = size) (hsz : 0 < size) (hby : bytes ≤ 128)
    (ho : o.op = .call { callee := .builtin .append, args := #[s, x], argTypes := #[t, t] })
    (B : Nat) (ao : Option Addr) (n cap : Nat) (cs : List Value) (m c : Nat) (news : List Value) (hs : a.eval s = .slice ao n cap) (hx : a.eval x = .slice (some ⟨w.heap.size, 0, none⟩) m c) (hl : news.length = m * size) (h1 : ∀ u ∈ news, u.oneCell' = true)
    (hown : OwnC e size B w ao n cap cs) (hn : n + m < 1000000000000) (hB : B ≤ w.heap.size)
    (h : ∀ ao' cap' w', OwnC e size B w' ao' (n + m) cap' (cs ++ news) → w.grownBy w' (rowOf ao cap) → wpList P ops Q rest (a.put o.dst (.slice ao' (n + m) cap')) w') :
    wpList P ops Q (o :: rest) a (w.alloc (.cells news.toArray e)) :=
  wpList_append_any hgd s x t e z size bytes ht hi hzs hsz ho B ao n cap cs hs (hown.alloc _) _ _ m c news hx hl (cellsAt_new w news e) h1 hby hn (by simp; omega)
    fun ao' cap' w' h2 h3 => h ao' cap' w' h2 (grownBy_old h3)
theorem below_append {B : Nat} {w0 w w' : World} {e : TypeId} {size : Nat} {ao : Option Addr} {n cap : Nat} {cs : List Value} (hb : Below B w0 w) (hown : OwnC e size B w ao n cap cs) (hg : w.grownBy w' (rowOf ao cap)) (hB : B ≤ w.heap.size) : Below B w0 w' :=
  hb.grown hg hB fun k hk => (hown.rowLt k hk).1
/-- The same for one int. -/
theorem wpList_append_i {w : World} {ops : Array Oper} {rest : List Oper} {o : Oper} {a : Act} {Q : Exit → Act → World → Prop} (hgd : o.guard = none) (s x : Operand)
    (ho : o.op = .call { callee := .builtin .append, args := #[s, x], argTypes := #[29, 29] })
    (B : Nat) (ao : Option Addr) (n cap : Nat) (xs : List Int) (u : Int) (hs : a.eval s = .slice ao n cap) (hx : a.eval x = .slice (some ⟨w.heap.size, 0, none⟩) 1 1)
    (hown : OwnI B w ao n cap xs) (hn : n < 999999990) (hB : B ≤ w.heap.size)
    (h : ∀ ao' cap' w', OwnI B w' ao' (n + 1) cap' (xs ++ [u]) → w.grownBy w' (rowOf ao cap) → wpList Tryz.prog ops Q rest (a.put o.dst (.slice ao' (n + 1) cap')) w') :
    wpList Tryz.prog ops Q (o :: rest) a (w.alloc (.cells #[.int .i64 u] 3)) :=
  wpList_append_new hgd s x 29 3 (.int .i64 0) 1 8 Tryz.underlying29 int_info rfl (by decide) (by decide) ho B ao n cap (xs.map (Value.int .i64)) 1 1 [.int .i64 u] hs hx rfl (by simp [Value.oneCell']) hown.2.2 (by omega) hB
    fun ao' cap' w' h1 h2 => h ao' cap' w' ⟨by simp [hown.1], by omega, by simpa using h1⟩ h2
/-- Two ints. -/
theorem wpList_append_ii {w : World} {ops : Array Oper} {rest : List Oper} {o : Oper} {a : Act} {Q : Exit → Act → World → Prop} (hgd : o.guard = none) (s x : Operand)
    (ho : o.op = .call { callee := .builtin .append, args := #[s, x], argTypes := #[29, 29] })
    (B : Nat) (ao : Option Addr) (n cap : Nat) (xs : List Int) (u v : Int) (hs : a.eval s = .slice ao n cap) (hx : a.eval x = .slice (some ⟨w.heap.size, 0, none⟩) 2 2)
    (hown : OwnI B w ao n cap xs) (hn : n < 999999990) (hB : B ≤ w.heap.size)
    (h : ∀ ao' cap' w', OwnI B w' ao' (n + 2) cap' (xs ++ [u, v]) → w.grownBy w' (rowOf ao cap) → wpList Tryz.prog ops Q rest (a.put o.dst (.slice ao' (n + 2) cap')) w') :
    wpList Tryz.prog ops Q (o :: rest) a (w.alloc (.cells #[.int .i64 u, .int .i64 v] 3)) :=
  wpList_append_new hgd s x 29 3 (.int .i64 0) 1 8 Tryz.underlying29 int_info rfl (by decide) (by decide) ho B ao n cap (xs.map (Value.int .i64)) 2 2 [.int .i64 u, .int .i64 v] hs hx rfl (by simp [Value.oneCell']) hown.2.2 (by omega) hB
    fun ao' cap' w' h1 h2 => h ao' cap' w' ⟨by simp [hown.1], by omega, by simpa using h1⟩ h2
/-- All ints of another slice. -/
theorem wpList_append_is {w : World} {ops : Array Oper} {rest : List Oper} {o : Oper} {a : Act} {Q : Exit → Act → World → Prop} (hgd : o.guard = none) (s x : Operand)
    (ho : o.op = .call { callee := .builtin .append, args := #[s, x], argTypes := #[29, 29] })
    (B : Nat) (ao : Option Addr) (n cap : Nat) (xs : List Int) (C : Nat) (xo : Option Addr) (m c : Nat) (ys : List Int) (hs : a.eval s = .slice ao n cap) (hx : a.eval x = .slice xo m c)
    (hown : OwnI B w ao n cap xs) (hy : Ints w C xo m ys) (hn : n + m < 999999990) (hB : B ≤ w.heap.size)
    (h : ∀ ao' cap' w', OwnI B w' ao' (n + m) cap' (xs ++ ys) → w.grownBy w' (rowOf ao cap) → wpList Tryz.prog ops Q rest (a.put o.dst (.slice ao' (n + m) cap')) w') :
    wpList Tryz.prog ops Q (o :: rest) a w :=
  wpList_append_any hgd s x 29 3 (.int .i64 0) 1 8 Tryz.underlying29 int_info rfl (by decide) ho B ao n cap (xs.map (Value.int .i64)) hs hown.2.2 C xo m c (ys.map (Value.int .i64)) hx (by simp [hy.1]) hy.2.2
    (ints_oneCell _ _) (by decide) (by omega) hB fun ao' cap' w' h1 h2 => h ao' cap' w' ⟨by simp [hown.1, hy.1], by omega, by simpa using h1⟩ h2

/-- What 'open_ints' hands over, as a list. -/
theorem ints_of_open {W : World} {x : Addr} {len cap : Nat} {zs : List Int} (hl : len ≤ cap) (hz : zs.length = cap) (hm : cap ≤ maxLen) (hcell : ∀ i, i < zs.length → W.cell? (x.add i) = some (.int .i64 (zs.getD i 0))) : IntsArg W (some x) len (zs.take len) := by
  refine ⟨by simp; omega, Nat.le_trans hl hm, ?_⟩
  rcases Nat.eq_zero_or_pos len with rfl | hp
  · left; simp
  · have h0 := hcell 0 (by omega)
    obtain ⟨b, off, spot⟩ := x
    have hspot : spot = none := by simpa [Addr.add] using World.cell?_spot h0
    subst hspot
    have hlt : b < W.heap.size := by
      have := World.block_lt_of_cell? W _ h0
      rw [Addr.add_lit] at this
      exact this
    refine .inr ⟨b, off, rfl, hlt, fun j u hu => ?_⟩
    have hj : j < len := by
      have := (List.getElem?_eq_some_iff.1 hu).1
      simp at this; omega
    have hc := hcell j (by omega)
    rw [Addr.add_lit] at hc
    rw [hc]
    have e : ((zs.take len).map (Value.int IntKind.i64))[j]? = some (.int .i64 (zs.getD j 0)) := by
      rw [List.getElem?_map, List.getElem?_take, if_pos hj]
      simp [List.getD, List.getElem?_eq_getElem (show j < zs.length by omega)]
    rw [e] at hu
    exact hu
theorem ints_nil (W : World) : IntsArg W none 0 [] := ⟨rfl, Nat.zero_le _, .inl rfl⟩
end Go.Proofs.YtdlddkgmjpmenaaGreatDoor
/-
  The contracts of the small functions that all chapters share: ranges, copies, comparisons and marks of lists of ints, tests of all elements.
-/
namespace Go.Proofs.YtdlddkgmjpmenaaGreatDoor
open Go.RowKit

/-- A bool back, nothing old has turned. -/
def RetB (b : Bool) (w : World) (e : Ending) (w' : World) : Prop := e = .returned (.bool b) ∧ Below w.heap.size w w'
/-- An int back. -/
def RetN (n : Int) (w : World) (e : Ending) (w' : World) : Prop := e = .returned (.int .i64 n) ∧ Below w.heap.size w w'
/-- An int and a bool back. -/
def RetNB (r : Int × Bool) (w : World) (e : Ending) (w' : World) : Prop := e = .returned (.tuple #[.int .i64 r.1, .bool r.2]) ∧ Below w.heap.size w w'
/-- What a call that makes a slice of ints hands back: it owns it; nothing old has turned. -/
def RetI (xs : List Int) (w : World) (e : Ending) (w' : World) : Prop := ∃ ao n cap, e = .returned (.slice ao n cap) ∧ OwnI w.heap.size w' ao n cap xs ∧ Below w.heap.size w w'
/-- The same with a bool beside it. -/
def RetIB (r : List Int × Bool) (w : World) (e : Ending) (w' : World) : Prop := ∃ ao n cap, e = .returned (.tuple #[.slice ao n cap, .bool r.2]) ∧ OwnI w.heap.size w' ao n cap r.1 ∧ Below w.heap.size w w'

/-- n lies between lo and hi: a bool that the walk does not look into. -/
def inB (n lo hi : Int) : Bool := decide (lo ≤ n) && decide (n ≤ hi)
theorem inB_iff {n lo hi : Int} : inB n lo hi = true ↔ lo ≤ n ∧ n ≤ hi := by simp [inB]
theorem inB_no {n lo hi : Int} : inB n lo hi = false ↔ ¬ (lo ≤ n ∧ n ≤ hi) := by rw [← inB_iff]; cases inB n lo hi <;> simp
def allIn (lo hi : Int) (xs : List Int) : Bool := xs.all fun x => inB x lo hi
theorem allIn_iff {lo hi : Int} {xs : List Int} : allIn lo hi xs = true ↔ ∀ x ∈ xs, lo ≤ x ∧ x ≤ hi := by simp [allIn, inB_iff]

theorem within_any (n lo hi : Int) (w : World) : Calls Tryz.prog 98 #[.int .i64 n, .int .i64 lo, .int .i64 hi] w fun e w' => e = .returned (.bool (inB n lo hi)) ∧ w = w' := by
  go_enter Tryz.func98, Tryz.ntmps98
  go_wp2
  all_goals
    go_ret
    exact ⟨ret_bool (by simp [inB]; try omega), rfl⟩
theorem l1In_any (n lo hi : Int) (w : World) : Calls Tryz.prog 95 #[.int .i64 n, .int .i64 lo, .int .i64 hi] w fun e w' => e = .returned (.bool (inB n lo hi)) ∧ w = w' := by
  go_enter Tryz.func95, Tryz.ntmps95
  go_wp2
  all_goals
    go_ret
    exact ⟨ret_bool (by simp [inB]; try omega), rfl⟩

theorem all_step {p : Int → Bool} {xs : List Int} {k : Nat} {x : Int} (hx : xs[k]? = some x) (h : (xs.take k).all p = true) (e : p x = true) : (xs.take (k + 1)).all p = true := by
  rw [List.take_add_one, hx]; simp [h, e]
theorem all_no {p : Int → Bool} {xs : List Int} {k : Nat} {x : Int} (hx : xs[k]? = some x) (e : p x = false) : xs.all p = false := by
  rw [List.all_eq_false]; exact ⟨x, List.mem_of_getElem? hx, by simp [e]⟩
theorem l1All_any (w : World) (B : Nat) (ao : Option Addr) (n c : Nat) (xs : List Int) (lo hi : Int) (ha : Ints w B ao n xs) :
    Calls Tryz.prog 81 #[.slice ao n c, .int .i64 lo, .int .i64 hi] w fun e w' => e = .returned (.bool (allIn lo hi xs)) ∧ w = w' := by
  have hn := ha.le
  go_enter Tryz.func81, Tryz.ntmps81
  go_wp2
  go_loop [11] (fun i => ∃ k : Nat, k ≤ n ∧ i = .int .i64 k ∧ Hid ((xs.take k).all (fun x => inB x lo hi) = true)) (fun i => n - (intOf i).toNat)
  case atStart => exact ⟨0, Nat.zero_le _, rfl, by simp [Hid]⟩
  case round =>
    obtain ⟨k, hk, rfl, heq⟩ := hrel
    by_cases hlt : k < n
    · obtain ⟨b1, o1, x, rfl, hb1, hx, hc1⟩ := ha.at hlt
      have HX := Lib.hid hx
      clear hx
      cases hb : inB x lo hi
      · go_wp2_with (go_at_call 95; refine (l1In_any _ _ _ _).mono ?_; rintro e w' ⟨rfl, rfl⟩)
        go_ret
        exact ⟨ret_bool (all_no HX.out hb).symm, rfl⟩
      · go_wp2_with (go_at_call 95; refine (l1In_any _ _ _ _).mono ?_; rintro e w' ⟨rfl, rfl⟩)
        go_round
        case rel => exact ⟨k + 1, by omega, by go_num, all_step HX.out heq.out hb⟩
        case measure => simp [intOf] <;> omega
    · obtain rfl : k = n := by omega
      go_wp2
      go_ret
      exact ⟨ret_bool (by have h := heq.out; rw [List.take_of_length_le (by rw [ha.1]; exact Nat.le_refl _)] at h; exact h.symm), rfl⟩

theorem eq_step {xs ys : List Int} {k : Nat} {x y : Int} (hx : xs[k]? = some x) (hy : ys[k]? = some y) (h : xs.take k = ys.take k) (e : x = y) : xs.take (k + 1) = ys.take (k + 1) := by
  rw [List.take_add_one, List.take_add_one, hx, hy, h, e]
theorem eq_no {xs ys : List Int} {k : Nat} {x y : Int} (hx : xs[k]? = some x) (hy : ys[k]? = some y) (e : x ≠ y) : decide (xs = ys) = false := by
  simp; intro h; subst h; rw [hx] at hy; exact e (by simpa using hy)
theorem eq_yes {xs ys : List Int} {n : Nat} (hx : xs.length = n) (hy : ys.length = n) (h : xs.take n = ys.take n) : decide (xs = ys) = true := by
  rw [List.take_of_length_le (by omega), List.take_of_length_le (by omega)] at h; simpa using h
def eqB (xs ys : List Int) : Bool := decide (xs = ys)
theorem eqB_self (xs : List Int) : eqB xs xs = true := by simp [eqB]
/-- The numbers that marking lays. -/
def marks (k : Int) : Nat → List Int
  | 0 => []
  | n + 1 => k :: marks (k + 1) n
theorem marks_length (k : Int) (n : Nat) : (marks k n).length = n := by induction n generalizing k <;> simp [marks, *]
theorem marks_get (k : Int) (n i : Nat) (h : i < n) : (marks k n)[i]? = some (k + i) := by
  induction n generalizing k i with
  | zero => omega
  | succ n ih =>
    cases i with
    | zero => simp [marks]
    | succ i => simp [marks]; rw [ih (k + 1) i (by omega)]; simp; omega
theorem marks_held (k : Int) (n : Nat) : ∀ (i : Nat) (x : Int), (marks k n)[i]? = some x → x = k + i := by
  intro i x h
  have hi : i < n := by
    have := (List.getElem?_eq_some_iff.1 h).1
    rwa [marks_length] at this
  rw [marks_get k n i hi] at h
  simpa using h.symm
theorem mark_set {k0 : Int} {xs : List Int} {k n : Nat} (hl : xs.length = n) (hk : k < n) : ((marks k0 k) ++ xs.drop k).set k (k0 + k) = marks k0 (k + 1) ++ xs.drop (k + 1) := by
  have hm : marks k0 (k + 1) = marks k0 k ++ [k0 + k] := by
    apply List.ext_getElem?
    intro i
    by_cases h1 : i < k
    · rw [marks_get _ _ _ (by omega), List.getElem?_append_left (by rw [marks_length]; exact h1), marks_get _ _ _ h1]
    · by_cases h2 : i = k
      · subst h2; rw [marks_get _ _ _ (by omega), List.getElem?_append_right (by rw [marks_length]; exact Nat.le_refl _)]; simp [marks_length]
      · rw [List.getElem?_eq_none (by rw [marks_length]; omega), List.getElem?_eq_none (by simp [marks_length]; omega)]
  rw [hm, List.set_append_right _ _ (by rw [marks_length]; exact Nat.le_refl _), marks_length, Nat.sub_self, List.drop_eq_getElem_cons (by omega), List.set_cons_zero, List.append_assoc]
  rfl

theorem copy_set {xs : List Int} {k n : Nat} {x : Int} (hl : xs.length = n) (hx : xs[k]? = some x) : (xs.take k ++ List.replicate (n - k) (0 : Int)).set k x = xs.take (k + 1) ++ List.replicate (n - (k + 1)) 0 := by
  have hk : k < xs.length := (List.getElem?_eq_some_iff.1 hx).1
  have hkl : (xs.take k).length = k := by simp; omega
  rw [List.set_append_right _ _ (by omega), hkl, Nat.sub_self, List.take_add_one, hx, show n - k = (n - (k + 1)) + 1 from by omega, List.replicate_succ]
  simp
end Go.Proofs.YtdlddkgmjpmenaaGreatDoor
/-
  Tests of all elements by a function value: slices.IndexFunc, slices.ContainsFunc, impl.areAll, for whatever function value answers by a predicate.
-/
namespace Go.Proofs.YtdlddkgmjpmenaaGreatDoor
open Go.RowKit

/-- The function value g over what it captured answers by p on the numbers xs, in every world that is as w below its end. -/
structure Pred (g : FuncId) (caps : Array Value) (w : World) (p : Int → Bool) (xs : List Int) : Prop where
  enter : ∀ (args : Array Value) (W : World), (callFunc g args).run Tryz.prog W = .ok (.enter g args) W
  call : ∀ x ∈ xs, ∀ W, Below w.heap.size w W → Calls Tryz.prog g (#[.int .i64 x] ++ caps) W fun e W' => e = .returned (.bool (p x)) ∧ Below W.heap.size W W'

def idxP (p : Int → Bool) (xs : List Int) : Int := match xs.findIdx? p with | some i => (i : Int) | none => -1

theorem idx_step {p : Int → Bool} {xs : List Int} {k : Nat} {x : Int} (hx : xs[k]? = some x) (h : ∀ y ∈ xs.take k, p y = false) (e : p x = false) : ∀ y ∈ xs.take (k + 1), p y = false := by
  intro y hy
  rw [List.take_add_one, hx] at hy
  rcases List.mem_append.1 hy with hy | hy
  · exact h y hy
  · simp at hy; subst hy; exact e
theorem idx_hit {p : Int → Bool} {xs : List Int} {k : Nat} {x : Int} (hx : xs[k]? = some x) (h : ∀ y ∈ xs.take k, p y = false) (e : p x = true) : idxP p xs = (k : Int) := by
  have hk : k < xs.length := (List.getElem?_eq_some_iff.1 hx).1
  have hxk : xs[k] = x := by rw [List.getElem?_eq_getElem hk] at hx; simpa using hx
  have : xs.findIdx? p = some k := by
    rw [List.findIdx?_eq_some_iff_getElem]
    refine ⟨hk, by rw [hxk]; exact e, fun j hj => ?_⟩
    have := h xs[j] (by rw [List.mem_take_iff_getElem]; exact ⟨j, by omega, rfl⟩)
    simp [this]
  simp [idxP, this]
theorem idx_none {p : Int → Bool} {xs : List Int} (h : ∀ y ∈ xs, p y = false) : idxP p xs = -1 := by
  have : xs.findIdx? p = none := by rw [List.findIdx?_eq_none_iff]; exact h
  simp [idxP, this]
theorem idx_any (p : Int → Bool) (xs : List Int) : (xs.any p = true → 0 ≤ idxP p xs) ∧ (xs.any p = false → idxP p xs = -1) := by
  constructor
  · intro h
    cases hf : xs.findIdx? p with
    | some i => simp [idxP, hf]
    | none =>
      rw [List.findIdx?_eq_none_iff] at hf
      obtain ⟨y, hy, hpy⟩ := List.any_eq_true.1 h
      rw [hf y hy] at hpy
      cases hpy
  · intro h
    exact idx_none fun y hy => by
      have := List.any_eq_false.1 h y hy
      simpa using this
theorem any_not (p : Int → Bool) (xs : List Int) : (xs.any fun x => !p x) = !xs.all p := by induction xs <;> simp [*]
theorem cell_new (w : World) (v : Value) (t : TypeId) : (w.alloc (.cells #[v] t)).cell? ⟨w.heap.size, 0, none⟩ = some v := by
  rw [cell_of_row _ w.heap.size 0 #[v] t (0, 0) (heap_alloc_new w _)]; rfl
end Go.Proofs.YtdlddkgmjpmenaaGreatDoor
/-
  Slices whose elements are structs of ints: their cells, one after the other, are a list of ints.
-/
namespace Go.Proofs.YtdlddkgmjpmenaaGreatDoor
open Go.RowKit

/-- A slice of n elements of z ints each reads as xs. -/
def Flat (z : Nat) (w : World) (B : Nat) (ao : Option Addr) (n : Nat) (xs : List Int) : Prop := xs.length = n * z ∧ n ≤ 1000000000 ∧ CellsAt w B ao (xs.map (Value.int .i64))
/-- The same of an argument of a law, whose length is not bounded yet. -/
def FlatArg (z : Nat) (w : World) (ao : Option Addr) (n : Nat) (xs : List Int) : Prop := xs.length = n * z ∧ n ≤ maxLen ∧ CellsAt w w.heap.size ao (xs.map (Value.int .i64))
/-- A slice that the call owns. -/
def OwnF (z : Nat) (e : TypeId) (B : Nat) (w : World) (ao : Option Addr) (n cap : Nat) (xs : List Int) : Prop := xs.length = n * z ∧ n ≤ 1000000000 ∧ OwnC e z B w ao n cap (xs.map (Value.int .i64))
section
variable {z : Nat} {w w' : World} {B C : Nat} {ao : Option Addr} {n cap : Nat} {xs : List Int} {e : TypeId}
theorem FlatArg.flat (h : FlatArg z w ao n xs) (hn : n ≤ 1048576) : Flat z w w.heap.size ao n xs := ⟨h.1, by omega, h.2.2⟩
theorem Flat.below (h : Flat z w B ao n xs) (hb : Below C w w') (hC : B ≤ C) : Flat z w' B ao n xs := ⟨h.1, h.2.1, h.2.2.below hb hC⟩
theorem Flat.up (h : Flat z w B ao n xs) (hC : B ≤ C) : Flat z w C ao n xs := ⟨h.1, h.2.1, h.2.2.up hC⟩
theorem Flat.le (h : Flat z w B ao n xs) : n ≤ 1000000000 := h.2.1
theorem Flat.drewN (h : Flat z w B ao n xs) (k : Nat) : Flat z (w.drewN k) B ao n xs := h
theorem OwnF.below (h : OwnF z e B w ao n cap xs) (hb : Below C w w') (hC : w.heap.size ≤ C) : OwnF z e B w' ao n cap xs := ⟨h.1, h.2.1, h.2.2.below hb hC⟩
theorem OwnF.flat (h : OwnF z e B w ao n cap xs) : Flat z w w.heap.size ao n xs := ⟨h.1, h.2.1, h.2.2.cellsAt⟩
theorem OwnF.up (h : OwnF z e B w ao n cap xs) (hC : C ≤ B) : OwnF z e C w ao n cap xs := ⟨h.1, h.2.1, h.2.2.up hC⟩
theorem OwnF.le (h : OwnF z e B w ao n cap xs) : n ≤ 1000000000 := h.2.1
theorem OwnF.nil (B : Nat) (w : World) (ao : Option Addr) : OwnF z e B w ao 0 0 [] := ⟨by simp, by decide, OwnC.nil _ _ _ _ _⟩
theorem OwnF.rowLt (h : OwnF z e B w ao n cap xs) : ∀ k, rowOf ao cap = .some k → B ≤ k ∧ k < w.heap.size := h.2.2.rowLt
theorem OwnF.other {row : Option Nat} (h : OwnF z e B w ao n cap xs) (hg : w.grownBy w' row) (hne : ∀ k l, rowOf ao cap = .some k → row = .some l → k ≠ l) : OwnF z e B w' ao n cap xs := by
  refine ⟨h.1, h.2.1, h.2.2.kept hg fun g hao hc he => ?_⟩
  subst hao
  exact hne g g (by simp [rowOf, hc]) he rfl
/-- The cells of element k. -/
theorem Flat.at (h : Flat z w B ao n xs) (hz : 0 < z) {k : Nat} (hk : k < n) :
    ∃ b off, ao = some ⟨b, off, none⟩ ∧ b < B ∧ ∀ j, j < z → ∃ x, xs[k * z + j]? = some x ∧ w.cell? ⟨b, off + (k * z + j), none⟩ = some (.int .i64 x) := by
  obtain ⟨hl, _, h⟩ := h
  have hlt : ∀ j, j < z → k * z + j < xs.length := fun j hj => by
    have : (k + 1) * z ≤ n * z := Nat.mul_le_mul_right z hk
    rw [Nat.add_mul] at this
    omega
  rcases h with h | ⟨b, off, rfl, hb, h⟩
  · exfalso
    simp at h
    have := hlt 0 hz
    simp [h] at this
  · exact ⟨b, off, rfl, hb, fun j hj => ⟨xs[k * z + j]'(hlt j hj), List.getElem?_eq_getElem _, h _ _ (by simp [hlt j hj])⟩⟩
/-- One cell of an owned row. -/
theorem OwnF.set {g : Nat} (h : OwnF z e B w (some ⟨g, 0, none⟩) n cap xs) {k : Nat} (hk : k < xs.length) (v : Int) :
    OwnF z e B (w.setCell ⟨g, k, none⟩ (.int .i64 v)) (some ⟨g, 0, none⟩) n cap (xs.set k v) ∧ w.grownBy (w.setCell ⟨g, k, none⟩ (.int .i64 v)) (rowOf (some ⟨g, 0, none⟩) cap) ∧ w.frozen? ⟨g, k, none⟩ = false ∧ ∃ u, w.cell? ⟨g, k, none⟩ = some u := by
  have hn : 0 < n := by
    rcases Nat.eq_zero_or_pos n with h0 | h0
    · have := h.1; rw [h0] at this; simp at this; subst this; simp at hk
    · exact h0
  obtain ⟨g', hg', _, _, hr⟩ := h.2.2.some hn
  simp at hg'
  subst hg'
  have hcap : cap ≠ 0 := by
    rcases hr.2 with ⟨hv, h0⟩ | ⟨g2, cap2, cur, hv, _, _, hn', _⟩
    · omega
    · simp only [Value.slice.injEq] at hv
      obtain ⟨_, _, rfl⟩ := hv
      omega
  have hst := World.ownsRow.stored hr k (.int .i64 v)
  rw [← List.map_set] at hst
  refine ⟨⟨by simp [h.1], h.2.1, .inr ⟨g, rfl, hst.1⟩⟩, by simpa [rowOf, hcap] using hst.2, World.ownsRow.frozenAt hr k, ?_⟩
  rw [World.ownsRow.cellAt hr k (by rw [← h.1]; exact hk)]
  exact ⟨_, List.getElem?_eq_getElem (by simpa using hk)⟩
/-- An owned row that is not empty: its block. -/
theorem OwnF.some (h : OwnF z e B w ao n cap xs) (hn : 0 < n) : ∃ g, ao = some ⟨g, 0, none⟩ ∧ B ≤ g ∧ g < w.heap.size := by
  obtain ⟨g, h1, h2, h3, _⟩ := h.2.2.some hn
  exact ⟨g, h1, h2, h3⟩
theorem below_setF {w0 : World} (hb : Below B w0 w) (hown : OwnF z e B w ao n cap xs) (hg : w.grownBy w' (rowOf ao cap)) (hB : B ≤ w.heap.size) : Below B w0 w' :=
  hb.grown hg hB fun k hk => (hown.rowLt k hk).1
/-- 'append(out, x)' of one element, behind the block that bears it. -/
theorem wpList_append_f {P : Program} {ops : Array Oper} {rest : List Oper} {o : Oper} {a : Act} {Q : Exit → Act → World → Prop} (hgd : o.guard = none) (s x : Operand) (t e : TypeId) (zv : Value) (z bytes : Nat)
    (ht : P.underlying t = some (.slice e)) (hi : (P.info? e).map (fun i => (i.zero, i.size, i.bytes)) = some (some zv, z, bytes)) (hzs : zv.cells.size = z) (hsz : 0 < z) (hby : bytes ≤ 128)
    (ho : o.op = .call { callee := .builtin .append, args := #[s, x], argTypes := #[t, t] })
    (B : Nat) (ao : Option Addr) (n cap : Nat) (xs us : List Int) (hs : a.eval s = .slice ao n cap) (hx : a.eval x = .slice (some ⟨w.heap.size, 0, none⟩) 1 1) (hz : us.length = z)
    (hown : OwnF z e B w ao n cap xs) (hn : n < 999999990) (hB : B ≤ w.heap.size)
    (h : ∀ ao' cap' w', OwnF z e B w' ao' (n + 1) cap' (xs ++ us) → w.grownBy w' (rowOf ao cap) → wpList P ops Q rest (a.put o.dst (.slice ao' (n + 1) cap')) w') :
    wpList P ops Q (o :: rest) a (w.alloc (.cells (us.map (Value.int .i64)).toArray e)) :=
  wpList_append_new hgd s x t e zv z bytes ht hi hzs hsz hby ho B ao n cap (xs.map (Value.int .i64)) 1 1 (us.map (Value.int .i64)) hs hx (by rw [List.length_map, hz, Nat.one_mul]) (ints_oneCell _ _) hown.2.2 (by omega) hB
    fun ao' cap' w' h1 h2 => h ao' cap' w' ⟨by rw [List.length_append, hown.1, hz, Nat.add_mul, Nat.one_mul], by omega, by simpa using h1⟩ h2
end
/-- What a call that makes such a slice hands back. -/
def RetF (z : Nat) (e : TypeId) (xs : List Int) (w : World) (r : Ending) (w' : World) : Prop := ∃ ao n cap, r = .returned (.slice ao n cap) ∧ OwnF z e w.heap.size w' ao n cap xs ∧ Below w.heap.size w w'
/-- The same with a bool beside it. -/
def RetFB (z : Nat) (e : TypeId) (rs : List Int × Bool) (w : World) (r : Ending) (w' : World) : Prop := ∃ ao n cap, r = .returned (.tuple #[.slice ao n cap, .bool rs.2]) ∧ OwnF z e w.heap.size w' ao n cap rs.1 ∧ Below w.heap.size w w'
/-! Steps of copying and marking element by element -/
theorem len_mul {n z k j : Nat} (hk : k < n) (hj : j < z) : k * z + j < n * z := by
  have : (k + 1) * z ≤ n * z := Nat.mul_le_mul_right z hk
  rw [Nat.add_mul] at this
  omega
theorem take_set {α : Type} {xs ys : List α} {k : Nat} {x : α} (hl : ys.length = xs.length) (hx : xs[k]? = some x) : (xs.take k ++ ys.drop k).set k x = xs.take (k + 1) ++ ys.drop (k + 1) := by
  have hk : k < xs.length := (List.getElem?_eq_some_iff.1 hx).1
  have hkl : (xs.take k).length = k := by simp; omega
  rw [List.set_append_right _ _ (by omega), hkl, Nat.sub_self, List.take_add_one, hx, List.drop_eq_getElem_cons (by omega), List.set_cons_zero]
  simp
theorem gtrans0 {a b c : World} {r : Option Nat} (h : a.grownBy b r) (k : b.grownBy c r) : a.grownBy c r :=
  ⟨k.os.trans h.os, k.tape.trans h.tape, k.output.trans h.output, Nat.le_trans h.size k.size, fun i hi hne => (k.block i (Nat.lt_of_lt_of_le hi h.size) hne).trans (h.block i hi hne)⟩
theorem map_get {xs : List Int} {k : Nat} {x : Int} (hx : xs[k]? = some x) : (xs.map (Value.int .i64))[k]? = some (.int .i64 x) := by simp [hx]
/-- The cells of element k of an owned row may be written. -/
theorem there_of_row {w : World} {B : Nat} {e : TypeId} {z g n cap : Nat} {cs : List Value} (hr : w.ownsRow B e z (.slice (some ⟨g, 0, none⟩) n cap) n cs) {k : Nat} (hk : k < n) : w.there g (k * z) z := fun j hj => by
  have hlt := len_mul hk hj
  refine ⟨?_, World.ownsRow.frozenAt hr _⟩
  rw [World.ownsRow.cellAt hr (k * z + j) hlt, List.getElem?_eq_getElem (by rw [hr.1]; exact hlt)]
  rfl
def szF (left n : Int) : Int := if left - n < 0 then -1 else left - n
theorem split_len {xs ys : List Int} {k m : Nat} (h1 : xs.length = m) (h2 : ys.length = m) (hk : k ≤ m) : (xs.take k ++ ys.drop k).length = m := by
  simp; omega
/-- What opening a slice of structs hands over, as a list. -/
theorem flat_of_open {z : Nat} {W : World} {x : Addr} {len : Nat} (hm : len ≤ maxLen) (f : Nat → Int) (hcell : ∀ i, i < len * z → W.cell? (x.add i) = some (.int .i64 (f i))) : FlatArg z W (some x) len ((List.range (len * z)).map f) := by
  refine ⟨by simp, hm, ?_⟩
  rcases Nat.eq_zero_or_pos (len * z) with h0 | hp
  · left; rw [h0]; rfl
  · have h0 := hcell 0 hp
    obtain ⟨b, off, spot⟩ := x
    have hspot : spot = none := by simpa [Addr.add] using World.cell?_spot h0
    subst hspot
    have hlt : b < W.heap.size := by
      have := World.block_lt_of_cell? W _ h0
      rw [Addr.add_lit] at this
      exact this
    refine .inr ⟨b, off, rfl, hlt, fun j u hu => ?_⟩
    have hj : j < len * z := by
      have := (List.getElem?_eq_some_iff.1 hu).1
      simpa using this
    have hc := hcell j hj
    rw [Addr.add_lit] at hc
    rw [hc, ← hu]
    simp [hj]
theorem flat_nil {z : Nat} (W : World) : FlatArg z W none 0 [] := ⟨by simp, Nat.zero_le _, .inl rfl⟩
end Go.Proofs.YtdlddkgmjpmenaaGreatDoor
