/-
  Draws of programs: a program that is mostly valid has a text (printed by mkLd5.py).
-/
import Derived.Test.YtdlddkgmjpmenaaGreatDoorHLd
import Derived.Test.YtdlddkgmjpmenaaGreatDoorHPq
import Derived.Test.YtdlddkgmjpmenaaGreatDoorQPt2
namespace Go.Proofs.YtdlddkgmjpmenaaGreatDoor
open Go.RowKit
set_option linter.unusedVariables false
set_option linter.unusedSimpArgs false

theorem dec_size {n : Int} (h0 : 0 ≤ n) (h1 : n ≤ 1023) : (numT n).size ≤ 4 := by
  have := (dec_len4 (u := n.toNat) (by omega)).2
  simpa [numT, bt, ByteArray.size] using this
/-- Lines that have short texts. -/
def okX (ls : List Ln) : Prop := ∀ x ∈ ls, TxtOk x ∧ ∀ p ∈ x.parts, p.size ≤ 4
theorem okX_nil : okX [] := fun x h => by simp at h
theorem okX_snoc {ls : List Ln} {x : Ln} (h : okX ls) (hx : TxtOk x) (hp : x.parts = []) : okX (ls ++ [x]) := fun y hy => by
  rcases List.mem_append.1 hy with hy | hy
  · exact h y hy
  · rw [List.mem_singleton] at hy; subst hy
    exact ⟨hx, fun p hp' => by rw [hp] at hp'; simp at hp'⟩
theorem okX_good {ls : List Ln} (hg : laGoodF ls = true) (he : okE ls) : okX ls := fun x hx => by
  refine ⟨good_txt hg (okD_okS he.okD) x hx, fun p hp => ?_⟩
  obtain ⟨k, hk, e⟩ := List.getElem_of_mem hx
  have h0 := (good_part hg (k := k) (by rw [List.getElem?_eq_getElem hk, e]) hp).1
  unfold findF at h0
  cases hf : ls.findIdx? (findB p) with
  | none => rw [hf] at h0; simp at h0
  | some i =>
    rw [List.findIdx?_eq_some_iff_getElem] at hf
    obtain ⟨hi, hb, _⟩ := hf
    unfold findB at hb
    simp at hb
    have := (he ls[i] (List.getElem_mem hi)).1
    rw [hb.2] at this
    exact this
theorem txt_const {nm : ByteArray} {r : Int} (h0 : 0 ≤ r) (h1 : r ≤ 1) : TxtOk ⟨2, nm, ⟨#[]⟩, [], 0, 1, r⟩ :=
  ⟨⟨rfl, fun (e : (2 : Int) = 1) => absurd e (by decide), fun _ => ⟨⟨(by decide : (1 : Int) ≤ 1), (by decide : (1 : Int) ≤ 10)⟩, h0, by show r ≤ 1023; omega⟩, (by decide : (1 : Int) ≤ 2), (by decide : (2 : Int) ≤ 6)⟩, fun p hp => by simp at hp⟩
theorem lineT_small {x : Ln} (h1 : TxtOk x) (h2 : ∀ p ∈ x.parts, p.size ≤ 4) (h3 : lnOk x) : (lineT x).size ≤ 40 := by
  have hg : ∀ k, (x.parts.getD k ByteArray.empty).size ≤ 4 := fun k => by
    rw [List.getD_eq_getElem?_getD]
    cases h : x.parts[k]? with
    | none => show ByteArray.empty.size ≤ 4; decide
    | some p => exact h2 p (List.mem_of_getElem? h)
  obtain ⟨⟨q1, q2, q3, q4⟩, -⟩ := h1
  obtain ⟨n1, n2, n3⟩ := h3
  have a0 := hg 0
  have a1 := hg 1
  have a2 := hg 2
  unfold lineT lineE
  split
  · rename_i k1
    obtain ⟨⟨y1, y2⟩, y3, y4⟩ := q2 k1
    have z1 := dec_size (n := x.party) y1 (by omega)
    have z2 := dec_size (n := x.width) (by omega) (by omega)
    simp only [ByteArray.size_append]
    show 6 + _ + 1 + _ + 1 + _ + 1 ≤ 40
    omega
  split
  · rename_i k1
    obtain ⟨⟨y1, y2⟩, y3, y4⟩ := q3 k1
    have z1 := dec_size (n := x.width) (by omega) (by omega)
    have z2 := dec_size (n := x.value) y3 y4
    simp only [ByteArray.size_append]
    show 6 + _ + 1 + _ + 1 + _ + 1 ≤ 40
    omega
  split
  · simp only [ByteArray.size_append]
    show 4 + _ + 1 + _ + 1 + _ + 1 + _ + 1 ≤ 40
    omega
  split
  · simp only [ByteArray.size_append]
    show 4 + _ + 1 + _ + 1 ≤ 40
    omega
  split
  · simp only [ByteArray.size_append]
    show 5 + _ + 1 + _ + 1 + _ + 1 + _ + 1 ≤ 40
    omega
  · simp only [ByteArray.size_append]
    show 4 + _ + 1 ≤ 40
    omega
theorem textB_small {ls : List Ln} (h1 : okX ls) (h2 : okE ls) : (textB ls).size ≤ 40 * ls.length := by
  have h : ∀ (P : List Ln) (a : ByteArray), okX P → okE P → (P.foldl (fun a x => a ++ lineT x) a).size ≤ a.size + 40 * P.length := by
    intro P
    induction P with
    | nil => intro a _ _; simp
    | cons x P ih =>
      intro a q1 q2
      have := ih (a ++ lineT x) (fun y hy => q1 y (List.mem_cons_of_mem _ hy)) (fun y hy => q2 y (List.mem_cons_of_mem _ hy))
      have hx := q1 x (List.mem_cons_self ..)
      have := lineT_small hx.1 hx.2 (q2 x (List.mem_cons_self ..))
      rw [List.foldl_cons, List.length_cons]
      rw [ByteArray.size_append] at *
      omega
  have := h ls (ByteArray.mk #[]) h1 h2
  have e : (ByteArray.mk #[]).size = 0 := rfl
  unfold textB
  omega
/-- A program that has a text is drawn. -/
def DrewX (b m : Nat) (w : World) (e : Ending) (w' : World) : Prop := ∃ (ls : List Ln) (ao : Option Addr) (n cap : Nat) (hs : List (Option Addr × Nat)), e = .returned (.slice ao n cap) ∧ TT w.heap.size w' ao n cap hs ls ∧ 1 ≤ n ∧ n ≤ 12 ∧ okE ls ∧ okX ls ∧ Cur w' b m ∧ w.grownBy w' (some b)
set_option maxHeartbeats 60000000 in
set_option maxRecDepth 20000 in
theorem program_txt (w : World) (b m : Nat) (hc : Cur w b m) (hm : m + 10000 ≤ 1000000000000) :
    Calls Tryz.prog 41 #[.pointer (some ⟨b, 0, none⟩)] w (DrewX b (m + 2000) w) := by
  have hbl := hc.lt
  obtain ⟨W, hW⟩ : ∃ W, W = w.alloc (.cells (namesD.map Value.string).toArray 9) := ⟨_, rfl⟩
  have hbW : Below w.heap.size w W := by rw [hW]; exact (Below.refl _ _).alloc (Nat.le_refl _) _
  have hnW : NM w.heap.size W := by rw [hW]; exact heap_alloc_new w _
  have hzW : W.heap.size = w.heap.size + 1 := by rw [hW]; simp
  have hcW := hc.below hbW hbl
  have hgW : w.grownBy W (some b) := g_of_below hbW _
  have HW : Hid (W = w.alloc (.cells #[.string ⟨#[120]⟩, .string ⟨#[121]⟩, .string ⟨#[117]⟩, .string ⟨#[118]⟩, .string ⟨#[119]⟩, .string ⟨#[114]⟩, .string ⟨#[115]⟩, .string ⟨#[116]⟩, .string ⟨#[115, 117, 109]⟩, .string ⟨#[108, 101, 115, 115]⟩, .string ⟨#[109, 111, 115, 116]⟩, .string ⟨#[98, 105, 116]⟩] 9)) := hW
  clear hW hc
  go_enter Tryz.func41, Tryz.ntmps41
  go_wp2_with (rw [← HW.out])
  refine (pick_any _ _ _ hcW (by omega) 9 (by omega) (by omega)).mono ?_
  rintro e w1 ⟨r, hr0, hr1, rfl, hc1, hg1⟩
  have hG1 := gtrans hgW hg1
  have hn1 := hnW.grown hg1 (by simp; omega)
  have hz1 := hg1.size
  clear hcW hgW hnW hg1
  go_wp2_with fail
  go_loopw [4, 5] (fun s4 s5 wx => ∃ (ls : List Ln) (ao : Option Addr) (n cap : Nat) (hs : List (Option Addr × Nat)) (k : Int), s4 = .slice ao n cap ∧ s5 = .int .i64 k ∧ 0 ≤ k ∧ (2 ≤ (n : Int) + k ∧ (n : Int) + k ≤ 10) ∧ TT (w.heap.size + 1) wx ao n cap hs ls ∧ Hid (okE ls ∧ okX ls) ∧ NM w.heap.size wx ∧ Cur wx b (m + 10 + 40 * n) ∧ w.grownBy wx (some b) ∧ w.heap.size + 1 ≤ wx.heap.size) (fun _ s5 _ => (intOf s5).toNat)
  case atStart => exact ⟨[], _, 0, _, [], _, rfl, rfl, by omega, ⟨by omega, by omega⟩, TT.nil _ _ _, Lib.hid ⟨okE_nil, okX_nil⟩, hn1, hc1.more (by omega) (by omega), hG1, by omega⟩
  case round =>
    obtain ⟨ls, ao, n, cap, hs, k, rfl, rfl, hk0, ⟨hnk2, hnk⟩, hT, hok, hnm, hcu, hg, hzx⟩ := hrel
    by_cases hk : 0 < k
    ·
      -- <B>
      have hn10 : n ≤ 9 := by omega
      obtain ⟨nm, hnmn⟩ : ∃ nm, namesD[n]? = some nm := ⟨_, List.getElem?_eq_getElem (by simp [namesD]; omega)⟩
      have hcell := hnm.cell hnmn
      have hlb : (n : Int) < 12 := by omega
      have hln := namesD_len nm (List.mem_of_getElem? hnmn)
      clear hnmn
      obtain ⟨wq, rfl⟩ : ∃ wq : World, wq = wr := ⟨_, rfl⟩
      go_upto_region 6 with fail
      go_cut [6] (fun s6 wx => ∃ (xb : Nat) (kd : Int), s6 = .pointer (some ⟨xb, 0, none⟩) ∧ Box wq b xb (m + 12 + 40 * n) wx ⟨kd, nm, ⟨#[]⟩, [], 0, 0, 0⟩ none 0)
      case first =>
        -- <A>
        have HNM := Lib.hid hnm
        have HCU := Lib.hid (hcu.drewN 1)
        have HCA : Hid (∀ o, Cur ((wq.drewN 1).alloc o) b (m + 10 + 40 * n)) := fun o => (hcu.drewN 1).below ((Below.refl _ _).alloc (Nat.le_refl _) o) hcu.lt
        have HK1 : Hid (∀ W' : World, (wq.drewN 1).grownBy W' (some b) → W'.cell? ⟨w.heap.size, n, none⟩ = some (.string nm)) := fun W' h => (h.cell_far ⟨w.heap.size, n, none⟩ (by show w.heap.size < wq.heap.size; omega) (by simp; omega)).trans hcell
        have HK2 : Hid (∀ (o : Obj) (W' : World), ((wq.drewN 1).alloc o).grownBy W' (some b) → W'.cell? ⟨w.heap.size, n, none⟩ = some (.string nm)) := fun o W' h => (h.cell_far ⟨w.heap.size, n, none⟩ (by show w.heap.size < ((wq.drewN 1).alloc o).heap.size; simp; show w.heap.size < wq.heap.size + 1; omega) (by simp; omega)).trans (cell_alloc_keep (W := wq.drewN 1) hcell o)
        go_region_held3 (fun w' => w'.cell? ⟨w.heap.size, n, none⟩ = some (.string nm)) (first | (rw [World.cell?_setCell_far, World.cell?_setCell_far, World.cell?_setCell_far, World.cell?_setCell_far, World.cell?_setCell_far, World.cell?_setCell_far, World.cell?_setCell_far] <;> first | assumption | (show wq.heap.size ≠ w.heap.size; omega)) | exact hcell | exact HK1.out _ (by assumption) | exact HK2.out _ _ (by assumption) | exact cell_alloc_keep (by assumption) _ | exact cell_alloc_keep (HK1.out _ (by assumption)) _ | go_keep)
          ((go_at_call 72; refine (pick_any _ _ _ (by first | exact HCU.out | exact HCA.out _) (by omega) 6 (by omega) (by omega)).mono ?_; rintro e w2 ⟨r2, hr20, hr21, rfl, hc2, hg2⟩; first | (have hxx := block_keep hg2 (heap_alloc_new (wq.drewN 1) _) (by simp; show b ≠ wq.heap.size; omega); change w2.heap[wq.heap.size]? = some _ at hxx; obtain ⟨⟨s0, s1, s2, s3, s4, s5, s6⟩, sf⟩ := seven_cells hxx; have sf0 := sf 0; have sf1 := sf 1; have sf2 := sf 2; have sf3 := sf 3; have sf4 := sf 4; have sf5 := sf 5; have sf6 := sf 6; clear sf) | skip))
        all_goals go_wp2_with fail
        · go_meet
          have hz2 := hg2.size
          exact ⟨_, _, rfl, by show wq.heap.size ≤ w2.heap.size; exact hz2, by omega, heap_alloc_new w2 _, (hc2.below ((Below.refl _ _).alloc (Nat.le_refl _) _) hc2.lt).more (by omega) (by omega), gbelow (gtrans (gdrewN (World.grownBy.refl _ _) 1) hg2) ((Below.refl _ _).alloc (Nat.le_refl _) _)⟩
        · go_meet
          have hz2 := hg2.size
          obtain ⟨hrow, hB⟩ := put7 (v0 := .int .i64 (IntKind.i64.wrap (1 + r2))) (v1 := .string nm) (v2 := .string ⟨#[]⟩) (v3 := .slice none 0 0) (v4 := .int .i64 0) (v5 := .int .i64 0) (v6 := .int .i64 0) hxx
          have hbq : b < wq.heap.size := by omega
          have hgq : wq.grownBy w2 (some b) := by first | exact gtrans (g_of_below ((Below.refl wq.heap.size wq).alloc (Nat.le_refl _) _) _) hg2 | exact gtrans (gdrewN (g_of_below ((Below.refl wq.heap.size wq).alloc (Nat.le_refl _) _) _) 1) hg2
          exact ⟨_, _, rfl, Nat.le_refl _, hbq, hrow, (hc2.below (hB _ (Nat.le_refl _)) hbq).more (by omega) (by omega), ⟨(hB _ (Nat.le_refl _)).os.trans hgq.os, (hB _ (Nat.le_refl _)).tape.trans hgq.tape, (hB _ (Nat.le_refl _)).output.trans hgq.output, Nat.le_trans hgq.size (hB _ (Nat.le_refl _)).size, fun i hi hne => ((hB _ (Nat.le_refl _)).block i hi).trans (hgq.block i hi hne)⟩⟩
        -- </A>
      case rest =>
        obtain ⟨xb, kd, rfl, hbx⟩ := hcut
        have hl4 : lnOk ⟨kd, nm, ⟨#[]⟩, [], 0, 0, 0⟩ := ⟨hln, by show (ByteArray.mk #[]).size ≤ 4; decide, Nat.zero_le _⟩
        have hLP : (⟨kd, nm, ⟨#[]⟩, [], 0, 0, 0⟩ : Ln).parts = [] := rfl
        go_wp2_with fail
        refine (among_new _ b (m + 12 + 40 * n) hbx.cur (by omega) [1, 2, 3, 3, 3, 4] (by decide) (by decide)).mono ?_
        rintro e w3 ⟨r3, hr3, rfl, hc3, hg3⟩
        have hbx3 := hbx.draw hg3 hc3
        clear hbx hc3 hg3
        go_upto_if 33 with (fail)
        go_cut [] (fun wx => ∃ L, Box wq b xb (m + 14 + 40 * n) wx L none 0 ∧ lnOk L ∧ L.parts = [] ∧ ((n : Int) < 2 → L.kind = 1))
        case first =>
          -- <A>
          by_cases hn2 : (n : Int) < 2
          · obtain ⟨⟨c0, -⟩, f⟩ := hbx3.cells
            have f0 := f 0
            clear f
            go_wp2_with fail
            go_meet
            exact ⟨⟨1, nm, ⟨#[]⟩, [], 0, 0, 0⟩, (hbx3.put (L' := ⟨1, nm, ⟨#[]⟩, [], 0, 0, 0⟩) (pa' := none) (pc' := 0) 0 _ rfl).more (by omega) (by omega), hl4, rfl, fun _ => rfl⟩
          · go_wp2_with fail
            go_meet
            exact ⟨_, hbx3.more (by omega) (by omega), hl4, rfl, fun h => absurd h (by omega)⟩
          -- </A>
        case rest =>
          obtain ⟨L, hbx4, hl5, hp, hk1⟩ := hcut
          clear hbx3 hl4 hLP
          obtain ⟨K, nmx, opx, pts, pty, wd, vl⟩ := L
          dsimp only at hp hk1
          subst hp
          obtain ⟨⟨c0, c1, c2, -, c4, c5, c6⟩, f⟩ := hbx4.cells
          dsimp only at c0 c1 c2 c4 c5 c6
          have f0 := f 0
          have f1 := f 1
          have f2 := f 2
          have f4 := f 4
          have f5 := f 5
          have f6 := f 6
          clear f
          have hr34 : r3 = 1 ∨ r3 = 2 ∨ r3 = 3 ∨ r3 = 4 := by simp at hr3; omega
          clear hr3
          go_upto_block 2 with fail
          go_cut [] (fun wx => ∃ L, Box wq b xb (m + 18 + 40 * n) wx L none 0 ∧ lnOk L ∧ L.parts = [] ∧ ((n : Int) < 2 → L.kind = 1))
          case first =>
            -- <A>
            by_cases k1 : K = 1
            · subst k1
              go_wp2_with fail
              go_meet
              exact ⟨⟨1, nmx, opx, [], (n : Int) % 2, r3, vl⟩, ((hbx4.put (L' := ⟨1, nmx, opx, [], (n : Int) % 2, wd, vl⟩) (pa' := none) (pc' := 0) 4 (.int .i64 ((n : Int) % 2)) rfl).put (L' := ⟨1, nmx, opx, [], (n : Int) % 2, r3, vl⟩) (pa' := none) (pc' := 0) 5 (.int .i64 r3) rfl).more (by omega) (by omega), hl5, rfl, fun _ => rfl⟩
            by_cases k2 : K = 2
            · subst k2
              have hbP : ∀ r : Int, Box wq b xb (m + 14 + 40 * n) _ _ none 0 := fun r => hbx4.put (L' := ⟨2, nmx, opx, [], pty, r, vl⟩) (pa' := none) (pc' := 0) 5 (.int .i64 r) rfl
              rcases hr34 with rfl | rfl | rfl | rfl
              all_goals
                go_wp2_with fail
                refine (pick_any _ _ _ (hbP _).cur (by omega) _ (by decide) (by decide)).mono ?_
                rintro e w5 ⟨r5, hr50, hr51, rfl, hc5, hg5⟩
                have hbx5 := (hbP _).draw hg5 hc5
                obtain ⟨⟨-, -, -, -, -, -, d6⟩, ff⟩ := hbx5.cells
                have ff6 := ff 6
                clear ff
                go_wp2_with fail
                go_meet
                first | exact ⟨⟨2, nmx, opx, [], pty, 1, r5⟩, (hbx5.put (L' := ⟨2, nmx, opx, [], pty, 1, r5⟩) (pa' := none) (pc' := 0) 6 (.int .i64 r5) rfl).more (by omega) (by omega), hl5, rfl, hk1⟩ | exact ⟨⟨2, nmx, opx, [], pty, 2, r5⟩, (hbx5.put (L' := ⟨2, nmx, opx, [], pty, 2, r5⟩) (pa' := none) (pc' := 0) 6 (.int .i64 r5) rfl).more (by omega) (by omega), hl5, rfl, hk1⟩ | exact ⟨⟨2, nmx, opx, [], pty, 3, r5⟩, (hbx5.put (L' := ⟨2, nmx, opx, [], pty, 3, r5⟩) (pa' := none) (pc' := 0) 6 (.int .i64 r5) rfl).more (by omega) (by omega), hl5, rfl, hk1⟩ | exact ⟨⟨2, nmx, opx, [], pty, 4, r5⟩, (hbx5.put (L' := ⟨2, nmx, opx, [], pty, 4, r5⟩) (pa' := none) (pc' := 0) 6 (.int .i64 r5) rfl).more (by omega) (by omega), hl5, rfl, hk1⟩
            by_cases k3 : K = 3
            · subst k3
              go_wp2_with fail
              refine (laOps_new _).mono ?_
              rintro e w5 ⟨rfl, rfl⟩
              go_wp2_with fail
              refine (of_new _ b (m + 14 + 40 * n) hbx4.cur (by omega) opsL (by decide) (by decide) 4 opsL_len).mono ?_
              rintro e w6 ⟨o6, rfl, ho6, hc6, hg6⟩
              have hbx5 := hbx4.draw hg6 hc6
              obtain ⟨⟨-, -, d2, -⟩, ff⟩ := hbx5.cells
              have ff2 := ff 2
              clear ff
              go_wp2_with fail
              go_meet
              exact ⟨⟨3, nmx, o6, [], pty, wd, vl⟩, (hbx5.put (L' := ⟨3, nmx, o6, [], pty, wd, vl⟩) (pa' := none) (pc' := 0) 2 _ rfl).more (by omega) (by omega), ⟨hl5.1, ho6, hl5.2.2⟩, rfl, hk1⟩
            by_cases k6 : K = 6
            · subst k6
              go_wp2_with fail
              go_meet
              exact ⟨⟨6, ⟨#[]⟩, opx, [], pty, wd, vl⟩, (hbx4.put (L' := ⟨6, ⟨#[]⟩, opx, [], pty, wd, vl⟩) (pa' := none) (pc' := 0) 1 _ rfl).more (by omega) (by omega), ⟨by show (ByteArray.mk #[]).size ≤ 4; decide, hl5.2⟩, rfl, hk1⟩
            · go_wp2_with fail
              go_meet
              exact ⟨_, hbx4.more (by omega) (by omega), hl5, rfl, hk1⟩
            -- </A>
          case rest =>
            obtain ⟨L, hbx5, hl6, hp, hk1⟩ := hcut
            clear hbx4 hl5 c0 c1 c2 c4 c5 c6 f0 f1 f2 f4 f5 f6
            obtain ⟨K, nmx, opx, pts, pty, wd, vl⟩ := L
            dsimp only at hp hk1
            subst hp
            obtain ⟨⟨c0, -⟩, -⟩ := hbx5.cells
            dsimp only at c0
            go_wp2_with fail
            refine (laParts_any _ _).mono ?_
            rintro e w' ⟨rfl, rfl⟩
            have hp3 := laParts_le K
            have hpn : 0 < laParts K → 2 ≤ n := by
              intro h0
              by_cases hn2 : (n : Int) < 2
              · rw [hk1 hn2] at h0
                exact absurd h0 (by decide)
              · omega
            obtain ⟨pk, hpk⟩ : ∃ pk, pk = laParts K := ⟨_, rfl⟩
            rw [← hpk] at hp3 hpn ⊢
            clear c0 hpk hk1
            go_wp2_with fail
            go_loopw [8] (fun s8 wx => ∃ (ps : List ByteArray) (pa : Option Addr) (pc : Nat) (j : Int), s8 = .int .i64 j ∧ 0 ≤ j ∧ (ps.length : Int) + j = pk ∧ Box wq b xb (m + 18 + 2 * ps.length + 40 * n) wx ⟨K, nmx, opx, ps, pty, wd, vl⟩ pa pc ∧ OwnSt wq.heap.size wx pa ps.length pc ps) (fun s8 _ => (intOf s8).toNat)
            case atStart => exact ⟨[], none, 0, _, rfl, hp3.1, by simp, hbx5, OwnSt.nil _ _ _⟩
            case round =>
              obtain ⟨ps, pa, pc, j, rfl, hj0, hjk, hbx6, how⟩ := hrel
              by_cases hj : 0 < j
              ·
                -- <A>
                have hn2 : 2 ≤ n := hpn (by omega)
                have HJ := Lib.hid hjk
                have hpl : ps.length ≤ 2 := by omega
                have HBX := Lib.hid (hbx6.draw (gdrewN (World.grownBy.refl _ _) 1) (hbx6.cur.drewN 1))
                have HOW := Lib.hid how
                have HHQ := Lib.hid hbx6.2.2.2.2
                have HNM := Lib.hid hnm
                obtain ⟨⟨-, -, -, c3, -⟩, ff⟩ := hbx6.cells
                dsimp only at c3
                have hbq := hbx6.2.1
                have f3 := ff 3
                clear ff hjk hbx6 how hg hT hcu hcell hnm
                have hn12 : n ≤ 9 := hn10
                have hzq : wq.heap.size ≤ wr.heap.size := HHQ.out.size
                go_upto_region 24 with fail
                go_region_law
                    (first
                      | (go_simp; go_at_call 72; refine (pick_any _ _ _ HBX.out.cur (by omega) _ (by omega) (by omega)).mono ?_; rintro e w2 ⟨r2, hr20, hr21, rfl, hc2, hg2⟩; have hbx2 := HBX.out.draw hg2 hc2; obtain ⟨⟨-, -, -, d3, -⟩, ff⟩ := hbx2.cells; have ff3 := ff 3; clear ff; dsimp only at d3; have d3a := cell_alloc_keep d3; obtain ⟨q2, rfl⟩ := Int.eq_ofNat_of_zero_le hr20; obtain ⟨nm2, hnm2⟩ : ∃ nm2, namesD[q2]? = some nm2 := ⟨_, List.getElem?_eq_getElem (by simp [namesD] <;> omega)⟩; have hcell2 := ((HNM.out.grown HHQ.out (by simp <;> omega)).grown (gtrans (gdrewN (World.grownBy.refl _ _) 1) hg2) (by simp <;> omega)).cell hnm2; have hlb2 : (q2 : Int) < 12 := (by omega); have howp := (HOW.out.drewN 1).other hg2 (fun x y hx hy => by have := (HOW.out.rowLt x hx).1; cases hy; omega); have hz2 := hg2.size; have hne2 := own_ne_block howp.2.2 hbx2.2.2.1 (by decide); try go_wp2_with fail)
                      | (refine step_append_s rfl _ _ rfl wq.heap.size _ _ _ _ _ rfl (by first | rfl | (simp; rfl)) howp (by omega) (Nat.le_trans hzq hz2) ?_; intro ao' cap' w9 hown9 hg9; have hb9 := block_keep hg9 hbx2.2.2.1 hne2; obtain ⟨⟨-, -, -, e3, -⟩, ff⟩ := seven_cells hb9; have ff9 := ff 3; clear ff; dsimp only at e3))
                all_goals go_wp2_with fail
                all_goals go_roundw
                all_goals have hw : wrap64 (j - 1) = j - 1 := IntWalk.wrap64_in _ ⟨by omega, by have := HJ.out; omega⟩
                all_goals first
                  | (show (wrap64 (j - 1)).toNat.succ ≤ j.toNat
                     rw [hw]
                     omega)
                  | (have hbx9 := hbx2.grown hg9 (fun p hp => ⟨(howp.rowLt p hp).1, fun e => hne2 (by rw [hp, e])⟩)
                     have hne9 := own_ne_block hown9.2.2 hb9 (by decide)
                     refine ⟨ps ++ [nm2], ao', cap', j - 1, by rw [hw], by omega, by have := HJ.out; rw [List.length_append]; show ((ps.length + 1 : Nat) : Int) + (j - 1) = pk; omega, ?_, ?_⟩
                     · exact (hbx9.put (L' := ⟨K, nmx, opx, ps ++ [nm2], pty, wd, vl⟩) (pa' := ao') (pc' := cap') 3 _ (by simp [lineObj])).more (by rw [List.length_append]; show _ ≤ m + 18 + 2 * (ps.length + 1) + 40 * n; omega) (by rw [List.length_append]; show m + 18 + 2 * (ps.length + 1) + 40 * n ≤ _; omega)
                     · rw [List.length_append]
                       exact hown9.other (gset _ xb 3 _) (fun x y hx hy e => hne9 (by rw [hx, e]; exact hy.symm)))
                -- </A>
              · go_wp2_with fail
                have hg8 := hbx6.2.2.2.2
                have hbq := hbx6.2.1
                have hzq : wq.heap.size ≤ wr.heap.size := hg8.size
                have hTw := hT.far hg8 (by omega : b < w.heap.size + 1)
                have hn10' : n ≤ 9 := hn10
                have hpl : ps.length ≤ 3 := by omega
                have HALL : Hid (∀ W' : World, Below wr.heap.size (wr.drewN 1) W' → TT (w.heap.size + 1) W' ao n cap hs ls ∧ Box wq b xb (m + 28 + 40 * n) W' ⟨K, nmx, opx, ps, pty, wd, vl⟩ pa pc ∧ OwnSt wq.heap.size W' pa ps.length pc ps ∧ wr.heap.size ≤ W'.heap.size) := fun W' hb => ⟨(hTw.far (gdrewN (World.grownBy.refl _ _) 1) (by omega : b < w.heap.size + 1)).below hb (Nat.le_refl _), ((hbx6.draw (gdrewN (World.grownBy.refl _ _) 1) (hbx6.cur.drewN 1)).below hb).more (by omega) (by omega), (how.drewN 1).below hb (Nat.le_refl _), hb.size⟩
                have HS := Lib.hid (hT.rowsS (Nat.le_refl _))
                have HTW := Lib.hid hTw
                have HNM8 := Lib.hid (hnm.grown hg8 (by simp; omega))
                have HOK := Lib.hid hok
                have HL6 := Lib.hid hl6
                have HG := Lib.hid hg
                have HCELL := Lib.hid hcell
                have HNMQ := Lib.hid hnm
                obtain ⟨⟨c0, c1, c2, c3, c4, c5, c6⟩, -⟩ := hbx6.cells
                dsimp only at c0 c1 c2 c3 c4 c5 c6
                have e0 := fun o => cell_alloc_keep (W := wr) c0 o
                have e1 := fun o => cell_alloc_keep (W := wr) c1 o
                have e2 := fun o => cell_alloc_keep (W := wr) c2 o
                have e3 := fun o => cell_alloc_keep (W := wr) c3 o
                have e4 := fun o => cell_alloc_keep (W := wr) c4 o
                have e5 := fun o => cell_alloc_keep (W := wr) c5 o
                have e6 := fun o => cell_alloc_keep (W := wr) c6 o
                clear hok hl6 hg hg8 hbx6 how hT hTw hnm hcell
                go_cut [9] (fun s9 wx => ∃ (ao9 : Option Addr) (cap9 : Nat) (hs9 : List (Option Addr × Nat)), s9 = .slice ao9 (n + 1) cap9 ∧ TT (w.heap.size + 1) wx ao9 (n + 1) cap9 hs9 (ls ++ [⟨K, nmx, opx, ps, pty, wd, vl⟩]) ∧ TT (w.heap.size + 1) wx ao n cap hs ls ∧ Cur wx b (m + 28 + 40 * n) ∧ wq.grownBy wx (some b))
                case first =>
                  -- <A>
                  go_region_law
                    (first
                      | (refine step_copy_n rfl _ _ rfl (w.heap.size + 1) _ ao n cap hs ls rfl (by first | rfl | (simp; rfl)) (HALL.out _ (by first | exact below_ad _ _ | exact below_aad _ _ _)).1 (by omega) (by simp <;> omega) ?_; intro ao9 cap9 w9 hTc hTl hfr hg9; have hBX9 := Box.grown (HALL.out _ (by first | exact below_ad _ _ | exact below_aad _ _ _)).2.1 hg9 (fun p hp => by cases hp); have hOW9 := OwnSt.other (HALL.out _ (by first | exact below_ad _ _ | exact below_aad _ _ _)).2.2.1 hg9 (fun x y hx hy => by cases hy); have hfr' : ∀ p, rowOf ao9 cap9 = some p → wr.heap.size ≤ p := (fun p hp => Nat.le_trans (by first | exact (below_ad _ _).size | exact (below_aad _ _ _).size) (hfr p hp)); have hk9 := fun (g : Nat) (o : Obj) (h : _) => block_keep (b := g) (o := o) hg9 h (by simp); have hz9 := hBX9.2.2.2.2.size; obtain ⟨⟨g0, g1, g2, g3, g4, g5, g6⟩, -⟩ := hBX9.cells; dsimp only at g0 g1 g2 g3 g4 g5 g6)
                      | (refine step_append_lg rfl _ _ rfl (w.heap.size + 1) wq.heap.size _ ao9 n cap9 hs ls ⟨K, nmx, opx, ps, pty, wd, vl⟩ pa pc rfl (by first | rfl | (simp; rfl)) (by first | exact heap_alloc_new w9 _ | exact hk9 _ _ (alloc_new2 _ _ _) | exact hk9 _ _ (blk_alloc (heap_alloc_new _ _) _)) (by first | exact hTc | exact hTc.below ((Below.refl _ _).alloc (Nat.le_refl _) _) (Nat.le_refl _)) (by first | exact hOW9 | exact hOW9.below ((Below.refl _ _).alloc (Nat.le_refl _) _) (Nat.le_refl _)) HS.out hzx (by omega) (by first | omega | (simp; omega)) ?_; intro ao10 cap10 w10 hT10 hg10; have hA := append_after HTW.out (by first | exact Below.refl _ _ | exact (Below.refl _ _).alloc (Nat.le_refl _) _) hTl hfr' hBX9.cur hBX9.2.2.2.2 hg10 hbq hzq))
                  all_goals go_wp2_with fail
                  all_goals go_meet
                  all_goals exact ⟨_, _, _, rfl, hT10, hA.1, hA.2.1, hA.2.2⟩
                  -- </A>
                case rest =>
                  obtain ⟨ao9, cap9, hs9, rfl, hT9, hl9, hc9, hg9⟩ := hcut
                  have hokE : okE (ls ++ [⟨K, nmx, opx, ps, pty, wd, vl⟩]) := okE_snoc HOK.out.out.1 ⟨HL6.out.1, HL6.out.2.1, hpl⟩
                  have HOKE := Lib.hid hokE
                  have hsz9 := hg9.size
                  clear hokE c0 c1 c2 c3 c4 c5 c6 e0 e1 e2 e3 e4 e5 e6 HALL HS HTW HNM8 hzq
                  obtain ⟨gd, hgd⟩ : ∃ gd, gd = laGoodF (ls ++ [⟨K, nmx, opx, ps, pty, wd, vl⟩]) := ⟨_, rfl⟩
                  have HGD := Lib.hid hgd
                  clear hgd
                  go_wp2_with fail
                  refine (laGood_any _ ao9 (n + 1) cap9 _ hT9.lns (okD_okS HOKE.out.okD) (ownC_capLe hT9.row)).mono ?_
                  rw [← HGD.out]
                  rintro e w11 ⟨rfl, hb11⟩
                  have hg11 := gbelow hg9 hb11
                  have hc11 := hc9.below hb11 hc9.lt
                  have hsz11 := hg11.size
                  have hn11 := HNMQ.out.grown hg11 (by simp; omega)
                  have hG11 := gtrans HG.out hg11
                  cases gd
                  · have hl11 := hl9.below hb11 (Nat.le_refl _)
                    clear hT9 hl9 hc9 hg9 hb11 hsz9
                    go_upto_region 28 with fail
                    have HC := Lib.hid (hc11.drewN 1)
                    have HL := Lib.hid hl11
                    have HK1 : Hid (∀ W' : World, (w11.drewN 1).grownBy W' (some b) → W'.cell? ⟨w.heap.size, n, none⟩ = some (.string nm)) := fun W' h => ((gtrans (gdrewN hg11 1) h).cell_far ⟨w.heap.size, n, none⟩ (by show w.heap.size < wq.heap.size; omega) (by simp; omega)).trans HCELL.out
                    have hk11 : w11.cell? ⟨w.heap.size, n, none⟩ = some (.string nm) := HK1.out (w11.drewN 1) (World.grownBy.refl _ _)
                    have HGX := Lib.hid hg11
                    have HNX := Lib.hid hn11
                    have hn12 : (n : Int) < 12 := by omega
                    have hlx : lnOk ⟨2, nm, ⟨#[]⟩, [], 0, 1, 0⟩ := ⟨hln, by show (ByteArray.mk #[]).size ≤ 4; decide, Nat.zero_le _⟩
                    have HLX := Lib.hid hlx
                    clear hl11 hc11 hg11 hn11 hlx
                    go_region_law
                      (first
                        | (go_simp; go_at_call 72; refine (pick_any _ _ _ HC.out (by omega) 2 (by omega) (by omega)).mono ?_; rintro e w12 ⟨r12, hr0, hr1, rfl, hc12, hg12⟩; have hl12 := (TT.far (TT.far HL.out (gdrewN (World.grownBy.refl w11 (some b)) 1) (by omega)) hg12 (by omega)); have hk12 := HK1.out _ hg12; have hG12 := gtrans (gdrewN HGX.out 1) hg12; have hz12 := hG12.size; have hn12' := HNMQ.out.grown hG12 (by simp; omega); try go_wp2_with fail)
                        | (refine step_append_l rfl _ _ rfl (w.heap.size + 1) w12.heap.size _ _ _ hs ls ⟨2, nm, ⟨#[]⟩, [], 0, 1, r12⟩ none 0 rfl (by first | rfl | (simp; rfl)) hl12 (OwnSt.nil _ _ _) (hl12.rowsS (Nat.le_refl _)) (by omega) (by omega) (by omega) ?_; intro ao13 cap13 w13 hT13 hg13))
                    all_goals go_wp2_with fail
                    all_goals go_roundw
                    all_goals first
                      | (show (k - 1).toNat.succ ≤ k.toNat
                         omega)
                      | (have hrow13 : ∀ p, rowOf ao cap = some p → w.heap.size + 1 ≤ p := fun p hp => (hl12.row.rowLt p hp).1
                         have hz13 := hg13.size
                         exact ⟨_, ao13, n + 1, cap13, _, k - 1, rfl, rfl, by omega, ⟨by omega, by omega⟩, hT13, Lib.hid ⟨okE_snoc HOK.out.out.1 HLX.out, okX_snoc HOK.out.out.2 (txt_const (by omega) (by omega)) rfl⟩, hn12'.grown hg13 (fun e => by have := hrow13 _ e; omega), (hc12.grown hg13 (fun p hp => by have := hrow13 p hp; omega)).more (by omega) (by omega), gown (gtrans HG.out hG12) hg13 (fun p hp => by have := hrow13 p hp; omega), by omega⟩)
                  · have hT11 := hT9.below hb11 (Nat.le_refl _)
                    clear hT9 hl9 hc9 hg9 hb11 hsz9
                    go_wp2_with fail
                    go_roundw
                    all_goals first
                      | (show (k - 1).toNat.succ ≤ k.toNat
                         omega)
                      | exact ⟨_, ao9, n + 1, cap9, hs9, k - 1, rfl, rfl, by omega, ⟨by omega, by omega⟩, hT11, Lib.hid ⟨HOKE.out, okX_good HGD.out.symm HOKE.out⟩, hn11, hc11.more (by omega) (by omega), hG11, by omega⟩
      -- </B>
    · obtain rfl : k = 0 := by omega
      obtain ⟨q, rfl⟩ : ∃ q, n = q + 1 := ⟨n - 1, by omega⟩
      have hn12 : ((q + 1 : Nat) : Int) < 12 := by omega
      obtain ⟨lq, hlq⟩ := getL_at (i := q) hT.len (by omega)
      go_wp2_with fail
      obtain ⟨gg, xq, rfl, hxq, hBg, hgw, -, hcl, -⟩ := hT.at hlq
      have hkq := hcl 1 _ rfl
      have hbr : b < wr.heap.size := by omega
      have hll := hT.len
      have HLQ := Lib.hid hlq
      have hlx : lnOk ⟨6, ⟨#[]⟩, ⟨#[]⟩, [lq.name], 0, 0, 0⟩ := ⟨by show (ByteArray.mk #[]).size ≤ 4; decide, by show (ByteArray.mk #[]).size ≤ 4; decide, by simp⟩
      have HLX := Lib.hid hlx
      have HTW := Lib.hid hT
      have hkk : ∀ W' : World, Below wr.heap.size (wr.drewN 1) W' → W'.cell? ⟨gg, q * 7 + 1, none⟩ = some (.string lq.name) := fun W' h => (h.cell (p := ⟨gg, q * 7 + 1, none⟩) hgw).trans hkq
      have HALL : Hid (∀ W' : World, Below wr.heap.size (wr.drewN 1) W' → TT (w.heap.size + 1) W' (some ⟨gg, 0, none⟩) (q + 1) cap hs ls ∧ Cur W' b (m + 10 + 40 * (q + 1)) ∧ wr.grownBy W' (some b) ∧ W'.cell? ⟨gg, q * 7 + 1, none⟩ = some (.string lq.name) ∧ wr.heap.size ≤ W'.heap.size) := fun W' hb => ⟨(hT.far (gdrewN (World.grownBy.refl _ _) 1) (by omega : b < w.heap.size + 1)).below hb (Nat.le_refl _), (hcu.drewN 1).below hb hbr, gbelow (gdrewN (World.grownBy.refl _ _) 1) hb, hkk W' hb, hb.size⟩
      have HS := Lib.hid (hT.rowsS (Nat.le_refl _))
      have HG := Lib.hid hg
      have HOK := Lib.hid hok
      have k1 := fun o => cell_alloc_keep (W := wr) hkq o
      have k2 := fun o o' => cell_alloc_keep (W := wr.alloc o') (k1 o') o
      have hwq : IntKind.i64.wrap (q : Int) = (q : Int) := by rw [IntKind.wrap_i64]; omega
      have hq1 : (q : Int) < (q : Int) + 1 := by omega
      clear hkk hlx hT hcl hlq hg hcu hnm hok
      go_cut [10] (fun s10 wx => ∃ (ao9 : Option Addr) (cap9 : Nat) (hs9 : List (Option Addr × Nat)), s10 = .slice ao9 (q + 1 + 1) cap9 ∧ TT (w.heap.size + 1) wx ao9 (q + 1 + 1) cap9 hs9 (ls ++ [⟨6, ⟨#[]⟩, ⟨#[]⟩, [lq.name], 0, 0, 0⟩]) ∧ TT (w.heap.size + 1) wx (some ⟨gg, 0, none⟩) (q + 1) cap hs ls ∧ Cur wx b (m + 10 + 40 * (q + 1)) ∧ wr.grownBy wx (some b))
      case first =>
        -- <C>
        go_region_law
          (first
            | (refine step_copy_n rfl _ _ rfl (w.heap.size + 1) _ (some ⟨gg, 0, none⟩) (q + 1) cap hs ls rfl (by first | rfl | (simp; rfl)) (HALL.out _ (by first | exact below_ad _ _ | exact below_aad _ _ _ | exact below_aaad _ _ _ _)).1 (by omega) (by simp <;> omega) ?_; intro ao9 cap9 w9 hTc hTl hfr hg9; obtain ⟨-, hCU9, hGG9, -, hZZ9⟩ := HALL.out _ (by first | exact below_of_grown hg9 (Nat.le_refl _) (by first | exact below_ad _ _ | exact below_aad _ _ _ | exact below_aaad _ _ _ _)); have hfr' : ∀ p, rowOf ao9 cap9 = some p → wr.heap.size ≤ p := (fun p hp => Nat.le_trans (by first | exact (below_ad _ _).size | exact (below_aad _ _ _).size | exact (below_aaad _ _ _ _).size) (hfr p hp)); have hk9 := fun (g : Nat) (o : Obj) (h : _) => block_keep (b := g) (o := o) hg9 h (by simp); have hkc := (HALL.out _ (below_of_grown hg9 (Nat.le_refl _) (by first | exact below_ad _ _ | exact below_aad _ _ _ | exact below_aaad _ _ _ _))).2.2.2.1; have hkc2 := fun o => cell_alloc_keep hkc o)
            | (refine step_append_lg rfl _ _ rfl (w.heap.size + 1) wr.heap.size _ ao9 (q + 1) cap9 hs ls ⟨6, ⟨#[]⟩, ⟨#[]⟩, [lq.name], 0, 0, 0⟩ _ 1 rfl (by first | rfl | (simp; rfl)) (by first | exact alloc_new2 w9 _ _ | exact heap_alloc_new w9 _ | exact hk9 _ _ (alloc_new3 _ _ _ _) | exact hk9 _ _ (blk_alloc (alloc_new2 _ _ _) _)) (by first | exact hTc | exact hTc.below ((Below.refl _ _).alloc (Nat.le_refl _) _) (Nat.le_refl _) | exact hTc.below (((Below.refl _ _).alloc (Nat.le_refl _) _).alloc (by simp) _) (Nat.le_refl _)) (own_str_at (by first | exact blk_alloc (heap_alloc_new w9 _) _ | exact blk_alloc (hk9 _ _ (alloc_new2 _ _ _)) _ | exact blk_alloc (hk9 _ _ (blk_alloc (heap_alloc_new _ _) _)) _ | exact hk9 _ _ (blk_alloc (alloc_new2 _ _ _) _) | exact hk9 _ _ (blk_alloc (blk_alloc (heap_alloc_new _ _) _) _)) (by first | omega | (simp; omega))) HS.out hzx (by omega) (by first | omega | (simp; omega)) ?_; intro ao10 cap10 w10 hT10 hg10; have hA := append_after HTW.out (by first | exact Below.refl _ _ | exact (Below.refl _ _).alloc (Nat.le_refl _) _ | exact ((Below.refl _ _).alloc (Nat.le_refl _) _).alloc (by simp) _) hTl hfr' hCU9 hGG9 hg10 hbr (Nat.le_refl _)))
        all_goals go_wp2_with fail
        all_goals go_meet
        all_goals exact ⟨_, _, _, rfl, hT10, hA.1, hA.2.1, hA.2.2⟩
        -- </C>
      case rest =>
        obtain ⟨ao9, cap9, hs9, rfl, hT9, hl9, hc9, hg9⟩ := hcut
        have hokE : okE (ls ++ [⟨6, ⟨#[]⟩, ⟨#[]⟩, [lq.name], 0, 0, 0⟩]) := okE_snoc HOK.out.out.1 HLX.out
        have HOKE := Lib.hid hokE
        clear hokE k1 k2 HALL HS HTW
        obtain ⟨gd, hgd⟩ : ∃ gd, gd = laGoodF (ls ++ [⟨6, ⟨#[]⟩, ⟨#[]⟩, [lq.name], 0, 0, 0⟩]) := ⟨_, rfl⟩
        have HGD := Lib.hid hgd
        clear hgd
        go_wp2_with fail
        refine (laGood_any _ ao9 (q + 1 + 1) cap9 _ hT9.lns (okD_okS HOKE.out.okD) (ownC_capLe hT9.row)).mono ?_
        rw [← HGD.out]
        rintro e w11 ⟨rfl, hb11⟩
        have hg11 := gtrans HG.out (gbelow hg9 hb11)
        have hc11 := hc9.below hb11 hc9.lt
        cases gd
        · have hl11 := hl9.below hb11 (Nat.le_refl _)
          go_wp2_with fail
          go_ret
          exact ⟨_, _, _, _, _, rfl, hl11.up (Nat.le_succ _), by omega, by omega, HOK.out.out.1, HOK.out.out.2, hc11.more (by omega) (by omega), hg11⟩
        · have hT11 := hT9.below hb11 (Nat.le_refl _)
          go_wp2_with fail
          go_ret
          exact ⟨_, _, _, _, _, rfl, hT11.up (Nat.le_succ _), by omega, by omega, HOKE.out, okX_good HGD.out.symm HOKE.out, hc11.more (by omega) (by omega), hg11⟩
end Go.Proofs.YtdlddkgmjpmenaaGreatDoor
