/-
  Programs read back: the loop over the lines, by the reference.
-/
import Derived.Test.YtdlddkgmjpmenaaGreatDoorQPr2
import Derived.Test.YtdlddkgmjpmenaaGreatDoorHPq
import Derived.Test.YtdlddkgmjpmenaaGreatDoorHPu
import Derived.Test.YtdlddkgmjpmenaaGreatDoorQTr1
import Derived.Test.YtdlddkgmjpmenaaGreatDoorShelf
namespace Go.Proofs.YtdlddkgmjpmenaaGreatDoor
open Go.RowKit
set_option linter.unusedVariables false
set_option linter.unusedSimpArgs false

/-- Lines laid in an own row; their parts lie wherever texts lie. -/
structure PT (B : Nat) (w : World) (ao : Option Addr) (n cap : Nat) (hs : List (Option Addr × Nat)) (ls : List Ln) : Prop where
  len : ls.length = n
  le : n ≤ 1000000000
  hlen : hs.length = n
  row : OwnC 47 7 B w ao n cap (linesCells ls hs)
  parts : ∀ (k : Nat) (l : Ln) (x : Option Addr × Nat), ls[k]? = some l → hs[k]? = some x → Strs w w.heap.size x.1 l.parts.length l.parts ∧ RowS w x.1
theorem PT.nil (B : Nat) (w : World) (ao : Option Addr) : PT B w ao 0 0 [] [] := ⟨rfl, by decide, rfl, OwnC.nil _ _ _ _ _, fun k l x a => by simp at a⟩
theorem RowS.same {w w' : World} {po : Option Addr} (h : RowS w po) (hk : ∀ p, po = some p → w'.heap[p.block]? = w.heap[p.block]?) : RowS w' po := fun p hp => by
  obtain ⟨cs, q, e⟩ := h p hp
  exact ⟨cs, q, (hk p hp).trans e⟩
theorem RowS.lt {w : World} {po : Option Addr} (h : RowS w po) {p : Addr} (hp : po = some p) : p.block < w.heap.size := by
  obtain ⟨cs, q, e⟩ := h p hp
  exact lt_of_block e
theorem Strs.same {w w' : World} {B C n : Nat} {po : Option Addr} {ss : List ByteArray} (h : Strs w B po n ss) (hBC : B ≤ C) (hk : ∀ p, po = some p → w'.heap[p.block]? = w.heap[p.block]?) : Strs w' C po n ss := by
  obtain ⟨h1, h2, h3⟩ := h
  refine ⟨h1, h2, ?_⟩
  rcases h3 with h3 | ⟨b, o, rfl, hlt, h3⟩
  · exact .inl h3
  · refine .inr ⟨b, o, rfl, Nat.lt_of_lt_of_le hlt hBC, fun j u hu => ?_⟩
    have := h3 j u hu
    rw [← this]
    simp only [World.cell?]
    rw [hk _ rfl]
theorem PT.below {B C : Nat} {w w' : World} {ao : Option Addr} {n cap : Nat} {hs : List (Option Addr × Nat)} {ls : List Ln} (h : PT B w ao n cap hs ls) (hb : Below C w w') (hC : w.heap.size ≤ C) : PT B w' ao n cap hs ls :=
  ⟨h.len, h.le, h.hlen, h.row.below hb hC, fun k l x a b => ⟨(h.parts k l x a b).1.same hb.size fun p hp => hb.block _ (Nat.lt_of_lt_of_le ((h.parts k l x a b).2.lt hp) hC), (h.parts k l x a b).2.same fun p hp => hb.block _ (Nat.lt_of_lt_of_le ((h.parts k l x a b).2.lt hp) hC)⟩⟩
theorem PT.lns {B : Nat} {w : World} {ao : Option Addr} {n cap : Nat} {hs : List (Option Addr × Nat)} {ls : List Ln} (h : PT B w ao n cap hs ls) : Lns w w.heap.size ao n ls :=
  ⟨h.len, h.le, hs, h.hlen, h.row.cellsAt, fun k l x a b => (h.parts k l x a b).1⟩
theorem row_apart {w : World} {B n cap : Nat} {ao po : Option Addr} {cs : List Value} (h : OwnC 47 7 B w ao n cap cs) (hr : RowS w po) : ∀ p, po = some p → some p.block ≠ rowOf ao cap := by
  intro p hp he
  obtain ⟨ds, q, e⟩ := hr p hp
  rcases h with ⟨_, _, h0⟩ | ⟨g, rfl, h⟩
  · subst h0; simp [rowOf] at he
  · have hg : g = p.block := by unfold rowOf at he; split at he <;> simp_all
    rcases h.2 with ⟨hv, _⟩ | ⟨b, cap1, cur1, hv, _, hb, _⟩
    · cases hv
    · cases hv
      subst hg
      rw [hb] at e
      cases e
theorem PT.app {B : Nat} {w w' : World} {ao ao' : Option Addr} {n cap cap' : Nat} {hs : List (Option Addr × Nat)} {ls : List Ln} {l : Ln} {x : Option Addr × Nat} (h : PT B w ao n cap hs ls) (hx : Strs w w.heap.size x.1 l.parts.length l.parts) (hr : RowS w x.1)
    (hrow : OwnC 47 7 B w' ao' (n + 1) cap' (linesCells ls hs ++ lineCells l x)) (hg : w.grownBy w' (rowOf ao cap)) (hn : n + 1 ≤ 1000000000) : PT B w' ao' (n + 1) cap' (hs ++ [x]) (ls ++ [l]) := by
  have hlh : ls.length = hs.length := h.len.trans h.hlen.symm
  have keep : ∀ {po : Option Addr} {m : Nat} {ss : List ByteArray}, Strs w w.heap.size po m ss → RowS w po → Strs w' w'.heap.size po m ss ∧ RowS w' po := fun h1 h2 =>
    ⟨h1.same hg.size fun p hp => hg.block _ (h2.lt hp) (row_apart h.row h2 p hp), h2.same fun p hp => hg.block _ (h2.lt hp) (row_apart h.row h2 p hp)⟩
  have last : ∀ {α : Type} {xs : List α} {a b : α} {i : Nat}, (xs ++ [a])[i]? = some b → (i < xs.length ∧ xs[i]? = some b) ∨ (i = xs.length ∧ a = b) := by
    intro α xs a b i e
    by_cases hi : i < xs.length
    · rw [List.getElem?_append_left hi] at e
      exact .inl ⟨hi, e⟩
    · rw [List.getElem?_append_right (by omega)] at e
      have : i - xs.length = 0 := by
        have := (List.getElem?_eq_some_iff.1 e).1
        simp at this
        omega
      rw [this] at e
      simp at e
      exact .inr ⟨by omega, e⟩
  refine ⟨by rw [List.length_append, h.len]; rfl, hn, by rw [List.length_append, h.hlen]; rfl, by rw [linesCells_snoc _ _ _ _ hlh]; exact hrow, fun k y z a b => ?_⟩
  rcases last a with ⟨hk, a'⟩ | ⟨hk, rfl⟩
  · rcases last b with ⟨_, b'⟩ | ⟨hk2, _⟩
    · exact keep (h.parts k y z a' b').1 (h.parts k y z a' b').2
    · omega
  · rcases last b with ⟨hk2, _⟩ | ⟨_, rfl⟩
    · omega
    · exact keep hx hr
/-- 'append' of one line whose parts lie wherever texts lie. -/
theorem wpList_append_p {w : World} {ops : Array Oper} {rest : List Oper} {o : Oper} {a : Act} {Q : Exit → Act → World → Prop} (hgd : o.guard = none) (s y : Operand)
    (ho : o.op = .call { callee := .builtin .append, args := #[s, y], argTypes := #[22, 22] })
    (B : Nat) (ao : Option Addr) (n cap : Nat) (hs : List (Option Addr × Nat)) (ls : List Ln) (l : Ln) (po : Option Addr) (pc : Nat) (hv : a.eval s = .slice ao n cap) (hx : a.eval y = .slice (some ⟨w.heap.size, 0, none⟩) 1 1)
    (h : PT B w ao n cap hs ls) (hxs : Strs w w.heap.size po l.parts.length l.parts) (hr : RowS w po) (hn : n < 999999990) (hB : B ≤ w.heap.size)
    (hQ : ∀ ao' cap' w', PT B w' ao' (n + 1) cap' (hs ++ [(po, pc)]) (ls ++ [l]) → w.grownBy w' (rowOf ao cap) → wpList Tryz.prog ops Q rest (a.put o.dst (.slice ao' (n + 1) cap')) w') :
    wpList Tryz.prog ops Q (o :: rest) a (w.alloc (.cells #[.int .i64 l.kind, .string l.name, .string l.op, .slice po l.parts.length pc, .int .i64 l.party, .int .i64 l.width, .int .i64 l.value] 47)) :=
  wpList_append_new hgd s y 22 47 (.agg #[.int .i64 0, .string ⟨#[]⟩, .string ⟨#[]⟩, .slice none 0 0, .int .i64 0, .int .i64 0, .int .i64 0]) 7 88 Tryz.underlying22 Line_info rfl (by decide) (by decide) ho B ao n cap (linesCells ls hs) 1 1 (lineCells l (po, pc)) hv hx rfl (lines_oneCell _ _) h.row (by omega) hB
    fun ao' cap' w' h1 h2 => hQ ao' cap' w' (h.app (x := (po, pc)) hxs hr h1 h2 (by omega)) h2
/-! ### Nothing that is read is longer than the text -/
theorem splitL_small {c : UInt8} : ∀ (l : List UInt8), ∀ x ∈ splitL c l, x.length ≤ l.length := by
  intro l
  induction l with
  | nil => intro x hx; simp [splitL] at hx; subst hx; simp
  | cons a l ih =>
    intro x hx
    simp only [splitL] at hx
    split at hx
    · rcases List.mem_cons.1 hx with rfl | hx
      · simp
      · have := ih x hx; simp; omega
    · split at hx
      · rename_i h t he
        rcases List.mem_cons.1 hx with rfl | hx
        · have := ih h (by rw [he]; exact List.mem_cons_self)
          simp; omega
        · have := ih x (by rw [he]; exact List.mem_cons_of_mem _ hx)
          simp; omega
      · simp at hx; subst hx; simp
theorem splitL_some {c : UInt8} (l : List UInt8) : ∃ a r, splitL c l = a :: r := by
  cases l with
  | nil => exact ⟨_, _, rfl⟩
  | cons b l =>
    simp only [splitL]
    split
    · exact ⟨_, _, rfl⟩
    · split <;> exact ⟨_, _, rfl⟩
theorem splitL_count {c : UInt8} : ∀ (l : List UInt8), (splitL c l).length ≤ l.length + 1 := by
  intro l
  induction l with
  | nil => simp [splitL]
  | cons a l ih =>
    simp only [splitL]
    split
    · simp; omega
    · split
      · rename_i h t he
        rw [he] at ih
        simp at ih ⊢; omega
      · simp
theorem lineOf_small {N : Nat} {rd : ByteArray → Int} {ws : List ByteArray} (h : ∀ v ∈ ws, v.size ≤ N) : (lineOf rd ws).name.size ≤ N ∧ (lineOf rd ws).op.size ≤ N ∧ (lineOf rd ws).parts.length ≤ 3 := by
  have hz : (⟨#[]⟩ : ByteArray).size ≤ N := Nat.zero_le _
  have hl : lnZ.name.size ≤ N ∧ lnZ.op.size ≤ N ∧ lnZ.parts.length ≤ 3 := ⟨hz, hz, Nat.zero_le _⟩
  unfold lineOf
  split
  · split
    · exact ⟨hz, hz, by simp⟩
    · exact hl
  · split
    · exact ⟨h _ (by simp), hz, by simp⟩
    · exact hl
  · split
    · exact ⟨h _ (by simp), hz, by simp⟩
    · split
      · exact ⟨h _ (by simp), hz, by simp⟩
      · exact hl
  · split
    · exact ⟨h _ (by simp), h _ (by simp), by simp⟩
    · split
      · exact ⟨h _ (by simp), hz, by simp⟩
      · exact hl
  · exact hl
theorem okS_spec {s : ByteArray} (hs : s.size ≤ 1048576) : okS (specP s) := by
  intro x hx
  unfold specP at hx
  obtain ⟨l, hl, rfl⟩ := List.mem_map.1 hx
  have h1 := splitL_small _ l (List.dropLast_subset _ hl)
  have hsz : s.data.toList.length = s.size := Array.length_toList
  obtain ⟨a, b, c⟩ := lineOf_small (N := 1048576) (rd := readF) (ws := (splitL 32 l).map bt) (fun v hv => by
    obtain ⟨y, hy, rfl⟩ := List.mem_map.1 hv
    have h2 := splitL_small _ y hy
    have h3 : (bt y).size = y.length := by show y.toArray.size = _; simp
    omega)
  exact ⟨a, b, by omega⟩
theorem specP_len {s : ByteArray} {n : Nat} (h : (splitL 10 s.data.toList).length = n) : (specP s).length = n - 1 := by
  unfold specP
  rw [List.length_map, List.length_dropLast, h]
theorem specP_at {s : ByteArray} {n k : Nat} (h : (splitL 10 s.data.toList).length = n) (hk : k < n - 1) : ∃ l, (splitL 10 s.data.toList)[k]? = some l ∧ l.length ≤ s.size ∧ (specP s)[k]? = some (lineOf readF ((splitL 32 l).map bs)) := by
  obtain ⟨l, hl⟩ : ∃ l, (splitL 10 s.data.toList)[k]? = some l := ⟨_, List.getElem?_eq_getElem (by omega)⟩
  refine ⟨l, hl, ?_, ?_⟩
  · have := splitL_small _ l (List.mem_of_getElem? hl)
    have hsz : s.data.toList.length = s.size := Array.length_toList
    omega
  · unfold specP
    rw [List.getElem?_map, List.getElem?_dropLast, if_pos (by omega), hl]
    rfl
theorem parse_many {s : ByteArray} {n : Nat} (h : (splitL 10 s.data.toList).length = n) (hn : 31 < n) : parseF s = ([], false) := by
  unfold parseF acceptF
  rw [if_neg]
  intro hg
  have := good_len hg.1
  rw [specP_len h] at this
  omega
/-! ### The walk -/
def RetP (r : List Ln × Bool) (w : World) (e : Ending) (w' : World) : Prop := ∃ ao n cap, e = .returned (.tuple #[.slice ao n cap, .bool r.2]) ∧ Lns w' w'.heap.size ao n r.1 ∧ n ≤ cap ∧ Below w.heap.size w w'
theorem RetP.eq {r : List Ln × Bool} {xs : List Ln} {b : Bool} {w w' : World} {ao : Option Addr} {n cap : Nat} (h : r = (xs, b)) (hl : Lns w' w'.heap.size ao n xs) (hc : n ≤ cap) (hb : Below w.heap.size w w') : RetP r w (.returned (.tuple #[.slice ao n cap, .bool b])) w' := by
  subst h; exact ⟨ao, n, cap, rfl, hl, hc, hb⟩
theorem rowS_own {B n cap : Nat} {w : World} {ao : Option Addr} {ss : List ByteArray} (h : OwnSt B w ao n cap ss) (hn : 0 < n) : RowS w ao := by
  obtain ⟨g, rfl, _, _, hr⟩ := h.2.2.some hn
  rcases hr.2 with ⟨hv, _⟩ | ⟨b, cap1, cur1, hv, _, hb, _⟩
  · cases hv
  · cases hv
    intro p hp
    cases hp
    exact ⟨_, _, hb⟩
set_option maxRecDepth 20000 in
set_option maxHeartbeats 4000000 in
theorem laParse_any (w : World) (s : ByteArray) (hs : s.size ≤ 1048576) :
    Calls Tryz.prog 26 #[.string s] w (RetP (parseF s) w) := by
  go_enter Tryz.func26, Tryz.ntmps26
  go_wp2_with (go_at_call 56; refine (l1Split_any _ s 10 hs).mono ?_; rintro e w1 ⟨ao, n, cap, rfl, ho1, hb1⟩; have hL : (splitL 10 s.data.toList).length = n := by simpa using ho1.1)
  · go_ret2
    exact RetP.eq (parse_many hL (by omega)) ⟨rfl, by decide, [], rfl, .inl rfl, fun k l h a => by simp at a⟩ (Nat.le_refl _) hb1
  rotate_left
  · have hcap := ownC_capLe ho1.2.2
    obtain ⟨l0, r0, e0⟩ := splitL_some (c := 10) s.data.toList
    have : 1 ≤ n := by rw [← hL, e0]; simp
    rename_i hno
    exact absurd (by omega) hno
  have hn1 : 1 ≤ n := by
    obtain ⟨l0, r0, e0⟩ := splitL_some (c := 10) s.data.toList
    rw [← hL, e0]; simp
  have hn31 : n ≤ 31 := by omega
  obtain ⟨g, rfl, hg1, hg2, hgr⟩ := ho1.2.2.some (by omega)
  have hcw : ∀ (j : Nat) (x : List UInt8), (splitL 10 s.data.toList)[j]? = some x → w1.cell? ⟨g, j, none⟩ = some (.string (bs x)) := by
    intro j x hx
    have := World.ownsRow.cells hgr (g := g) rfl j (.string (bs x)) (by simp [hx])
    rw [Addr.add_lit] at this
    simpa using this
  have hz1 := hb1.size
  have HL := Lib.hid hL
  clear hL hgr ho1
  go_loopw [4, 19] (fun s4 s19 wr => ∃ (k : Nat) (ao : Option Addr) (cp : Nat) (hs : List (Option Addr × Nat)), k ≤ n - 1 ∧ s4 = .slice ao k cp ∧ s19 = .int .i64 k ∧ Hid (PT w1.heap.size wr ao k cp hs ((specP s).take k)) ∧ Below w1.heap.size w1 wr) (fun _ s19 _ => n - (intOf s19).toNat)
  case atStart => exact ⟨0, none, 0, [], Nat.zero_le _, rfl, rfl, PT.nil _ _ _, Below.refl _ _⟩
  case round =>
    obtain ⟨k, ao, cp, hs', hk, rfl, rfl, HT, hbel⟩ := hrel
    by_cases hlt : k < n - 1
    · obtain ⟨l, hl, hls, hx⟩ := specP_at HL.out hlt
      have hcl : wr.cell? ⟨g, k, none⟩ = some (.string (bs l)) := (hbel.cell (p := ⟨g, k, none⟩) hg2).trans (hcw k l hl)
      have hzr := hbel.size
      have hsl : (bs l).size ≤ 1048576 := by
        have : (bs l).size = l.length := by show l.toArray.size = _; simp
        omega
      obtain ⟨a, ws, hws⟩ : ∃ a ws, ((splitL 32 l).map bs) = a :: ws := by
        obtain ⟨p, q, e⟩ := splitL_some (c := 32) l
        exact ⟨bs p, q.map bs, by rw [e]; rfl⟩
      obtain ⟨L, hLn⟩ : ∃ L, L = lineOf readF (a :: ws) := ⟨_, rfl⟩
      have hX : Hid ((specP s).take (k + 1) = (specP s).take k ++ [L]) := by
        show _ = _
        rw [List.take_add_one, hx, hws, hLn]; rfl
      have HLn := Lib.hid hLn
      have HWs := Lib.hid hws
      have hlen : 0 < (a :: ws).length := by simp
      clear hcw hl hx hLn hws
      go_wp2_with (first
        | (go_at_call 56; refine (l1Split_any _ (bs l) 32 hsl).mono ?_; rintro e w2 ⟨ao3, n3, cap3, rfl, ho3, hb3⟩; have ho3 : OwnSt wr.heap.size w2 ao3 n3 cap3 (a :: ws) := (by rw [← HWs.out]; exact ho3); have hz2 := hb3.size; have hn3 := ho3.1)
        | (go_at_call 57; refine (laLine_any w2 w2.heap.size ao3 n3 cap3 a ws ho3.strs (Nat.le_refl _) (ownC_capLe ho3.2.2) (rowS_own ho3 (by omega))).mono ?_; rw [← HLn.out]; rintro e w3 ⟨po, pc, rfl, hst, hb4, hpc, hrs⟩; have hz3 := hb4.size; have hb14 := (hbel.trans (hb3.mono hbel.size)).trans (hb4.mono (Nat.le_trans hbel.size hb3.size)); have HT3 := (HT.out.below hb3 (Nat.le_refl _)).below hb4 (Nat.le_refl _); unfold lineV)
        | (at_builtin; refine wpList_append_p rfl _ _ rfl w1.heap.size _ _ _ hs' _ L po pc rfl (by first | rfl | (simp; rfl)) HT3 hst hrs (by omega) (by omega) ?_; intro ao' cap' w9 hT9 hg9))
      have hbe := hb14.grown hg9 (by omega) (fun q hq => (HT3.row.rowLt q hq).1)
      go_roundw
      case rel => exact ⟨k + 1, ao', cap', _, by omega, rfl, by go_num, by show PT _ _ _ _ _ _ _; rw [hX.out]; exact hT9, hbe⟩
      case measure => simp [intOf] <;> omega
    · obtain rfl : k = n - 1 := by omega
      have HT : PT w1.heap.size wr ao (n - 1) cp hs' (specP s) := by have := HT.out; rwa [List.take_of_length_le (by rw [specP_len HL.out]; omega)] at this
      have hcp := ownC_capLe HT.row
      have hok := okS_spec hs
      have hbr := hb1.trans (hbel.mono hb1.size)
      have HZ := Lib.hid HT.lns
      have HLe := HT.lns
      cases hg : laGoodF (specP s)
      · have HF : Hid (parseF s = ([], false)) := by show _ = _; unfold parseF acceptF; rw [hg]; rfl
        have HG := Lib.hid hg
        clear hg hcw
        go_wp2_with (go_at_call 48; refine (laGood_any _ _ _ _ _ HLe hok hcp).mono ?_; rw [HG.out]; rintro e w3 ⟨rfl, hb3⟩)
        go_ret2
        exact RetP.eq HF.out ⟨rfl, by decide, [], rfl, .inl rfl, fun k l h a => by simp at a⟩ (Nat.le_refl _) (hbr.trans (hb3.mono hbr.size))
      · have HF : Hid (parseF s = if textB (specP s) = s then (specP s, true) else ([], false)) := by show _ = _; unfold parseF acceptF; rw [hg]; simp
        have HG := Lib.hid hg
        clear hg hcw
        go_wp2_with (first
          | (go_at_call 48; refine (laGood_any _ _ _ _ _ HLe hok hcp).mono ?_; rw [HG.out]; rintro e w3 ⟨rfl, hb3⟩)
          | (go_at_call 40; refine (laText_any _ _ _ _ _ ((HLe.below hb3 (Nat.le_refl _)).up hb3.size) HG.out hok).mono ?_; rintro e w4 ⟨rfl, hb4⟩))
        · rename_i hne
          go_ret2
          refine RetP.eq (HF.out.trans (if_neg fun e => ?_)) ⟨rfl, by decide, [], rfl, .inl rfl, fun k l h a => by simp at a⟩ (Nat.le_refl _) ((hbr.trans (hb3.mono hbr.size)).trans (hb4.mono (Nat.le_trans hbr.size hb3.size)))
          rw [e] at hne
          simp at hne
        · rename_i hne
          go_ret2
          refine RetP.eq (HF.out.trans (if_pos ?_)) ((((HLe.below hb3 (Nat.le_refl _)).up hb3.size).below hb4 (Nat.le_refl _)).up hb4.size) hcp ((hbr.trans (hb3.mono hbr.size)).trans (hb4.mono (Nat.le_trans hbr.size hb3.size)))
          have e : (textB (specP s)).toList = s.toList := by simpa using hne
          rw [ByteArray.toList_eq, ByteArray.toList_eq] at e
          exact ByteArray.ext (Array.toList_inj.1 e)
set_option maxHeartbeats 4000000 in
theorem spec_ParseProgram_any (w : World) (s : ByteArray) (hs : s.size ≤ 1048576) :
    Calls Tryz.prog 5 #[.string s] w (RetP (parseF s) w) := by
  go_enter Tryz.func5, Tryz.ntmps5
  go_wp2_with (go_at_call 26; refine (laParse_any _ s hs).mono ?_; rintro e w3 ⟨ao, n, cap, rfl, hl, hc, hb⟩)
  go_ret2
  exact ⟨ao, n, cap, rfl, hl, hc, hb⟩
end Go.Proofs.YtdlddkgmjpmenaaGreatDoor
/-
  Programs read back: a line out of its words, by the program.
-/
namespace Go.Proofs.YtdlddkgmjpmenaaGreatDoor
open Go.RowKit
set_option linter.unusedVariables false
set_option linter.unusedSimpArgs false

/-- The two variables of strconv that hold its errors. -/
def ErrsAt (w : World) : Prop := (∃ tp p, w.var? Tryz.prog "strconv.ErrSyntax" = some #[.iface tp p]) ∧ (∃ tp p, w.var? Tryz.prog "strconv.ErrRange" = some #[.iface tp p])
/-- .. and they stay. -/
def ErrsB (w : World) : Prop := ∀ W, Below w.heap.size w W → ErrsAt W
set_option maxHeartbeats 4000000 in
theorem atoi_any (w : World) (s : ByteArray) (hs : s.size ≤ 1048576) (he : ErrsAt w) : Calls Tryz.prog 61 #[.string s] w fun e w' => (∃ v, e = .returned (.tuple #[.int .i64 (atoiV s), v])) ∧ Below w.heap.size w w' := by
  obtain ⟨⟨tp, p, h1⟩, tp2, p2, h2⟩ := he
  unfold atoiV
  cases h : Lib.atoiAll s.data.toList
  · rename_i v
    refine (Tryz.strconv_Atoi_ok s (by omega) v h w).mono ?_
    rintro e w' ⟨rfl, h3⟩
    refine ⟨⟨_, rfl⟩, ?_⟩
    rcases h3 with rfl | ⟨t, rfl⟩
    · exact Below.refl _ _
    · first | exact Lib.bytesWorld_below _ _ _ | exact bytesWorld_below _ _ _ | exact below_bytesWorld _ _ _ _ (Nat.le_refl _) | exact Lib.below_bytesWorld _ _ _ _ (Nat.le_refl _)
  · refine (Any.strconv_Atoi_syntax_var Tryz.laysC172 s (by omega) h tp p w h1).mono ?_
    rintro e w' ⟨N, rfl, _, _, hb⟩
    exact ⟨⟨_, rfl⟩, hb⟩
  · refine (Tryz.strconv_Atoi_range_var s (by omega) h tp2 p2 w h2).mono ?_
    rintro e w' ⟨N, rfl, _, _, hb⟩
    exact ⟨⟨_, rfl⟩, hb⟩
set_option maxHeartbeats 4000000 in
theorem num_any (w : World) (s : ByteArray) (k : Nat) (hs : s.size ≤ 1048576) (he : ErrsAt w) (b off n c cb : Nat) (hk : k < n) (h1 : w.cell? ⟨cb, 0, none⟩ = some (.slice (some ⟨b, off, none⟩) n c)) (h2 : w.cell? ⟨b, off + k, none⟩ = some (.string s)) :
    Calls Tryz.prog 60 #[.int .i64 k, .pointer (some ⟨cb, 0, none⟩)] w fun e w' => e = .returned (.int .i64 (atoiV s)) ∧ Below w.heap.size w w' := by
  go_enter Tryz.func60, Tryz.ntmps60
  go_wp2_with (go_at_call 61; refine (atoi_any _ s hs he).mono ?_; rintro e w1 ⟨⟨v, rfl⟩, hb1⟩)
  go_ret
  exact ⟨rfl, hb1⟩
end Go.Proofs.YtdlddkgmjpmenaaGreatDoor
