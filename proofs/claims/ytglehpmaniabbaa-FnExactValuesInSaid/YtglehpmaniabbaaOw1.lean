/-
  The language: the widths of results and of inputs, both ways.
-/
import Derived.Test.YtglehpmaniabbaaWn1
namespace Go.Proofs.Ytglehpmaniabbaa
open Go.RowKit
set_option linter.unusedVariables false
set_option linter.unusedSimpArgs false

/-- The widths of the lines that fulfil something. -/
def pickW (p : Ln → Bool) (ls : List Ln) (ws : List Int) : List Int := ((ls.zip ws).filter fun x => p x.1).map (·.2)
theorem pickW_step {p : Ln → Bool} {ls : List Ln} {ws : List Int} {k : Nat} {l : Ln} {v : Int} (h : ls[k]? = some l) (hv : ws[k]? = some v) (hk : k ≤ ls.length) (hk2 : k ≤ ws.length) : pickW p (ls.take (k + 1)) (ws.take (k + 1)) = pickW p (ls.take k) (ws.take k) ++ (if p l = true then [v] else []) := by
  unfold pickW
  rw [List.take_add_one, h, List.take_add_one, hv, List.zip_append (by simp; omega), List.filter_append, List.map_append]
  congr 1
  cases hb : p l
  · simp [hb]
  · simp [hb]
def byF (p : Ln → Bool) (ls : List Ln) : List Int × Bool := if laGoodF ls = true then (pickW p ls (laWidths ls), true) else ([], false)
theorem RetIB.eq {r : List Int × Bool} {ao : Option Addr} {n c : Nat} {xs : List Int} {b : Bool} {w w' : World} (h : r = (xs, b)) (ho : OwnI w.heap.size w' ao n c xs) (hb : Below w.heap.size w w') : RetIB r w (.returned (.tuple #[.slice ao n c, .bool b])) w' := by
  subst h; exact ⟨_, _, _, rfl, ho, hb⟩
set_option maxRecDepth 100000 in
set_option maxHeartbeats 8000000 in
theorem widthsBy_any (w : World) (ao : Option Addr) (n c : Nat) (ls : List Ln) (h : Lns w w.heap.size ao n ls) (hs : okS ls) (hnc : n ≤ c) (g : FuncId) (caps : Array Value) (p : Ln → Bool)
    (hen : ∀ (args : Array Value) (W : World), (callFunc g args).run Try.prog W = .ok (.enter g args) W)
    (hp : ∀ (W : World) (l : Ln) (pa : Option Addr) (pc : Nat), Below w.heap.size w W → Calls Try.prog g (#[lineV l pa pc] ++ caps) W (RetB (p l) W)) :
    Calls Try.prog 58 #[.slice ao n c, .func (.func g) #[] caps] w (RetIB (byF p ls) w) := by
  have hn := h.le
  have hl := Lib.hid h.1
  have HP := Lib.hid hp
  clear hp
  go_enter Try.func58, Try.ntmps58
  go_wp2_with fail
  refine (widths_any _ _ _ _ _ h hs hnc).mono ?_
  rintro e w1 ⟨a1, n1, c1, rfl, ho1, hb1⟩
  have hok := (widths_good ls).1
  rw [hok]
  have HO1 := Lib.hid ho1
  clear ho1 hok
  cases hg : laGoodF ls
  · have HF : Hid (byF p ls = ([], false)) := by show _ = _; unfold byF; rw [hg]; simp
    clear hg
    go_wp2_with fail
    go_ret2
    exact RetIB.eq HF.out (OwnI.nil _ _ _) hb1
  have HF : Hid (byF p ls = (pickW p ls (laWidths ls), true)) := by show _ = _; unfold byF; rw [if_pos hg]
  have h30 : ls.length ≤ 30 := by
    have hg2 := hg
    unfold laGoodF at hg2
    rw [Bool.and_eq_true] at hg2
    simpa using hg2.1
  have HO2 := HO1.out
  rw [((widths_good ls).2 hg).1] at HO2
  obtain ⟨ws, hws⟩ : ∃ ws, ws = laWidths ls := ⟨_, rfl⟩
  have hwl : ws.length = n := by rw [hws, laWidths_length, hl.out]
  rw [← hws] at HF HO2
  obtain rfl : n1 = n := by rw [← HO2.1, hwl]
  rw [hl.out] at h30
  have HWL := Lib.hid hwl
  have hI := HO2.ints
  clear HO2 hg HO1 hws hwl
  have h1 := h.below hb1 (Nat.le_refl _)
  obtain ⟨W3, hW3⟩ : ∃ W3, W3 = w1.alloc (.cells #[] 3) := ⟨_, rfl⟩
  have hal3 : Below w1.heap.size w1 W3 := by rw [hW3]; exact (Below.refl _ _).alloc (Nat.le_refl _) _
  have hb3 := hb1.trans (hal3.mono hb1.size)
  have h3 := h.below hb3 (Nat.le_refl _)
  have hI3 := (hI.below hal3 (Nat.le_refl _)).up hal3.size
  have HW3 := Lib.hid hW3
  clear hW3 h1 hI
  go_wp2_with (rw [← HW3.out])
  go_loopw [8, 21] (fun out i wr => ∃ (k : Nat) (co : Option Addr) (m cap : Nat), k ≤ n1 ∧ m ≤ k ∧ i = .int .i64 k ∧ out = .slice co m cap ∧ OwnI W3.heap.size wr co m cap (pickW p (ls.take k) (ws.take k)) ∧ Below W3.heap.size W3 wr) (fun _ i _ => n1 - (intOf i).toNat)
  case atStart => exact ⟨0, _, 0, 0, Nat.zero_le _, Nat.le_refl _, rfl, rfl, by simpa [pickW] using OwnI.nil _ _ _, Below.refl _ _⟩
  case round =>
    obtain ⟨k, co, m, cap, hk, hmk, rfl, rfl, hout, hbel⟩ := hrel
    have hbelw := hb3.trans (hbel.mono hb3.size)
    by_cases hlt : k < n1
    · obtain ⟨b, o, l, pa, pc, rfl, hb, hx, hps, g0, g1, g2, g3, g4, g5, g6⟩ := (h3.below hbel hb3.size).at hlt
      obtain ⟨b2, o2, v, rfl, hb2, hv, q2⟩ := (hI3.below hbel (Nat.le_refl _)).at hlt
      have HS := Lib.hid (pickW_step (p := p) hx hv (by rw [hl.out]; exact hk) (by rw [HWL.out]; exact hk))
      clear hx hv
      obtain ⟨W2, hW2⟩ : ∃ W2, W2 = wr.alloc (lineObj l pa pc) := ⟨_, rfl⟩
      have hal : Below wr.heap.size wr W2 := by rw [hW2]; exact (Below.refl _ _).alloc (Nat.le_refl _) _
      have hbx : BoxL W2 wr.heap.size l pa pc := by rw [hW2]; exact boxL_new _ _ _ _
      have HW2 := Lib.hid hW2
      clear hW2
      obtain ⟨e0, e1, e2, e3, e4, e5, e6⟩ := hbx
      have hbel2 := hbel.trans (hal.mono hbel.size)
      have hbelw2 := hb3.trans (hbel2.mono hb3.size)
      have hout2 := hout.below hal (Nat.le_refl _)
      have HC := Lib.hid (HP.out W2 l pa pc hbelw2)
      unfold lineV at HC
      unfold lineObj at HW2
      cases hpx : p l
      · have HS2 : Hid (pickW p (ls.take (k + 1)) (ws.take (k + 1)) = pickW p (ls.take k) (ws.take k)) := by show _ = _; rw [HS.out, hpx]; simp
        have HPX := Lib.hid hpx
        clear hpx
        go_wp2_with (first | rw [← HW2.out] | ((with_reducible refine (HC.out).mono ?_); rintro e w5 ⟨rfl, hbx⟩; rw [HPX.out]))
        go_roundw
        case rel => exact ⟨k + 1, co, m, cap, by omega, by omega, by go_num, rfl, by rw [HS2.out]; exact hout2.below hbx (Nat.le_refl _), hbel2.trans (hbx.mono hbel2.size)⟩
        case measure => simp [intOf] <;> omega
      · have HS2 : Hid (pickW p (ls.take (k + 1)) (ws.take (k + 1)) = pickW p (ls.take k) (ws.take k) ++ [v]) := by show _ = _; rw [HS.out, hpx]; simp
        have HPX := Lib.hid hpx
        have HQ := Lib.hid (fun W (hW : Below W2.heap.size W2 W) => (hal.trans (hW.mono hal.size)).cell (p := ⟨b2, o2 + k, none⟩) (by have := hbel.size; exact Nat.lt_of_lt_of_le hb2 this))
        clear hpx
        go_wp2_with (first | rw [← HW2.out] | ((with_reducible refine (HC.out).mono ?_); rintro e w5 ⟨rfl, hbx⟩; rw [HPX.out]; have q5 := (HQ.out w5 hbx).trans q2; have hout5 := hout2.below hbx (Nat.le_refl _); have hbel5 := hbel2.trans (hbx.mono hbel2.size)) | (at_builtin; refine wpList_append_i rfl _ _ rfl W3.heap.size _ _ _ _ _ rfl (by first | rfl | (simp; rfl)) hout5 (by omega) hbel5.size ?_; intro ao' cap' w4 hown4 hg4))
        have hbr4 := below_append hbel5 hout5.2.2 hg4 hbel5.size
        go_roundw
        case rel => exact ⟨k + 1, ao', m + 1, cap', by omega, by omega, by go_num, rfl, by rw [HS2.out]; exact hown4, hbr4⟩
        case measure => simp [intOf] <;> omega
    · obtain rfl : k = n1 := by omega
      rw [List.take_of_length_le (by rw [hl.out]; exact Nat.le_refl _), List.take_of_length_le (by rw [HWL.out]; exact Nat.le_refl _)] at hout
      go_wp2_with fail
      go_ret2
      exact RetIB.eq HF.out (hout.up hb3.size) hbelw
theorem inWidths1_any (w : World) (l : Ln) (pa : Option Addr) (pc gb : Nat) (p : Int) (hc : w.cell? ⟨gb, 0, none⟩ = some (.int .i64 p)) (hgb : gb < w.heap.size) : Calls Try.prog 59 #[lineV l pa pc, .pointer (some ⟨gb, 0, none⟩)] w (RetB (l.kind == 1 && l.party == p) w) := by
  obtain ⟨W2, hW2⟩ : ∃ W2, W2 = w.alloc (lineObj l pa pc) := ⟨_, rfl⟩
  have hal : Below w.heap.size w W2 := by rw [hW2]; exact (Below.refl _ _).alloc (Nat.le_refl _) _
  have hbx : BoxL W2 w.heap.size l pa pc := by rw [hW2]; exact boxL_new _ _ _ _
  have hc2 := (hal.cell (p := ⟨gb, 0, none⟩) hgb).trans hc
  have HW2 := Lib.hid hW2
  clear hW2 hc
  obtain ⟨e0, e1, e2, e3, e4, e5, e6⟩ := hbx
  unfold lineObj at HW2
  unfold lineV
  cases k1 : (l.kind == 1)
  · go_enter Try.func59, Try.ntmps59
    go_wp2_with (rw [← HW2.out])
    go_ret
    exact ⟨ret_bool (by simp), hal⟩
  · go_enter Try.func59, Try.ntmps59
    go_wp2_with (rw [← HW2.out])
    go_ret
    exact ⟨ret_bool (by simp), hal⟩
def outWF (ls : List Ln) : List Int × Bool := if laGoodF ls = true then (outsW ls (laWidths ls), true) else ([], false)
theorem outWF_by (ls : List Ln) : outWF ls = byF (fun l => l.kind == 6) ls := rfl
def inWF (ls : List Ln) (p : Int) : List Int × Bool := if laGoodF ls = true ∧ inB p 0 1 = true then (inputsL ls p, true) else ([], false)
theorem input_width {done : List Ln} {ws : List Int} {x : Ln} (h : laWidth done ws x ≠ 0) (hk : x.kind = 1) : laWidth done ws x = x.width := by
  unfold laWidth at h ⊢
  split at h
  · exact (h rfl).elim
  · next w hw =>
    split at h
    · exact (h rfl).elim
    · next g1 =>
      split at h
      · exact (h rfl).elim
      · next g2 =>
        rw [if_neg g1, if_neg g2]
        unfold kindW at h ⊢
        rw [if_pos hk] at h ⊢
        split at h
        · next g => rw [if_pos g]
        · exact (h rfl).elim
theorem pick_inputs (p : Int) : ∀ (ls : List Ln) (ws : List Int), ls.length = ws.length → (∀ (k : Nat) (x : Ln) (y : Int), ls[k]? = some x → ws[k]? = some y → x.kind = 1 → y = x.width) → inputsL ls p = pickW (fun l => l.kind == 1 && l.party == p) ls ws
  | [], [], _, _ => rfl
  | [], _ :: _, h, _ => by simp at h
  | _ :: _, [], h, _ => by simp at h
  | x :: ls, y :: ws, h, hx => by
    have ih := pick_inputs p ls ws (by simpa using h) fun k a b h1 h2 => hx (k + 1) a b (by simpa using h1) (by simpa using h2)
    unfold inputsL pickW at ih ⊢
    rw [List.zip_cons_cons]
    cases hb : (x.kind == 1 && x.party == p)
    · rw [List.filter_cons_of_neg (by simp only [hb]; decide), List.filter_cons_of_neg (by simp only [hb]; decide), ih]
    · rw [List.filter_cons_of_pos (by simp only [hb]), List.filter_cons_of_pos (by simp only [hb]), List.map_cons, List.map_cons, ih]
      congr 1
      simp only [Bool.and_eq_true, beq_iff_eq] at hb
      exact (hx 0 x y rfl rfl hb.1).symm
theorem inWF_by {ls : List Ln} {p : Int} (hp : inB p 0 1 = true) : inWF ls p = byF (fun l => l.kind == 1 && l.party == p) ls := by
  unfold inWF byF
  by_cases hg : laGoodF ls = true
  · rw [if_pos ⟨hg, hp⟩, if_pos hg]
    congr 1
    have hok := ((widths_good ls).2 hg).2
    refine pick_inputs p ls (laWidths ls) hok.1 fun k x y h1 h2 hk => ?_
    have h3 := laWidths_get h1
    rw [h2] at h3
    simp only [Option.some.injEq] at h3
    have h4 := hok.2.1 k y h2
    rw [h3] at h4 ⊢
    exact input_width (by omega) hk
  · rw [if_neg (fun h => hg h.1), if_neg hg]
theorem spec_InputWidths_any (w : World) (ao : Option Addr) (n c : Nat) (ls : List Ln) (p : Int) (h : Lns w w.heap.size ao n ls) (hs : okS ls) (hn20 : n ≤ 1048576) (hnc : n ≤ c) :
    Calls Try.prog 30 #[.slice ao n c, .int .i64 p] w (RetIB (inWF ls p) w) := by
  go_enter Try.func30, Try.ntmps30
  go_wp2_with fail
  refine (laGood_any _ _ _ _ _ h hs hnc).mono ?_
  rintro e w1 ⟨rfl, hb1⟩
  cases hg : laGoodF ls
  · have HF : Hid (inWF ls p = ([], false)) := by show _ = _; unfold inWF; rw [if_neg (by rw [hg]; simp)]
    go_wp2_with fail
    go_ret2
    exact RetIB.eq HF.out (OwnI.nil _ _ _) hb1
  cases hp : inB p 0 1
  · have HF : Hid (inWF ls p = ([], false)) := by show _ = _; unfold inWF; rw [if_neg (by rw [hp]; simp)]
    have HP := Lib.hid hp
    clear hg hp
    go_wp2_with (go_at_call 60; refine (l1In_any _ _ _ _).mono ?_; rintro e w' ⟨rfl, rfl⟩; rw [HP.out])
    go_ret2
    exact RetIB.eq HF.out (OwnI.nil _ _ _) hb1
  · have HF : Hid (inWF ls p = (inputsL ls p, true)) := by show _ = _; unfold inWF; rw [if_pos ⟨hg, hp⟩]
    have HP := Lib.hid hp
    clear hg hp
    go_wp2_with (go_at_call 60; refine (l1In_any _ _ _ _).mono ?_; rintro e w' ⟨rfl, rfl⟩; rw [HP.out])
    refine (laInputs_any _ w.heap.size _ _ _ _ _ (h.below hb1 (Nat.le_refl _)) hb1.size hn20).mono ?_
    rintro e w2 ⟨a2, n2, c2, rfl, ho2, hb2⟩
    go_wp2_with fail
    go_ret2
    exact RetIB.eq HF.out (ho2.up hb1.size) (hb1.trans (hb2.mono hb1.size))
theorem impl_InputWidths_any (w : World) (ao : Option Addr) (n c : Nat) (ls : List Ln) (p : Int) (h : Lns w w.heap.size ao n ls) (hs : okS ls) (hnc : n ≤ c) :
    Calls Try.prog 29 #[.slice ao n c, .int .i64 p] w (RetIB (inWF ls p) w) := by
  obtain ⟨W2, hW2⟩ : ∃ W2, W2 = w.alloc (.cells #[.int .i64 p] 3) := ⟨_, rfl⟩
  have hal : Below w.heap.size w W2 := by rw [hW2]; exact (Below.refl _ _).alloc (Nat.le_refl _) _
  have hcell : W2.cell? ⟨w.heap.size, 0, none⟩ = some (.int .i64 p) := by
    rw [hW2, cell_of_row _ w.heap.size 0 _ _ (0, 0) (heap_alloc_new w _)]; rfl
  have hsz : w.heap.size < W2.heap.size := by rw [hW2]; simp
  have HW2 := Lib.hid hW2
  clear hW2
  cases hp : inB p 0 1
  · have HF : Hid (inWF ls p = ([], false)) := by show _ = _; unfold inWF; rw [if_neg (by rw [hp]; simp)]
    have HP := Lib.hid hp
    clear hp
    go_enter Try.func29, Try.ntmps29
    go_wp2_with (first | rw [← HW2.out] | (go_at_call 57; refine (isBit2_any _ _).mono ?_; rintro e w' ⟨rfl, rfl⟩; rw [HP.out]))
    go_ret2
    exact RetIB.eq HF.out (OwnI.nil _ _ _) hal
  · rw [inWF_by hp]
    have HP := Lib.hid hp
    have hen : ∀ (args : Array Value) (W : World), (callFunc 59 args).run Try.prog W = .ok (.enter 59 args) W := fun _ _ => by kernel_rfl
    have HC := Lib.hid (widthsBy_any W2 ao n c ls ((h.below hal (Nat.le_refl _)).up hal.size) hs hnc 59 #[.pointer (some ⟨w.heap.size, 0, none⟩)] (fun l => l.kind == 1 && l.party == p) hen (fun W l pa pc hW => inWidths1_any W l pa pc w.heap.size p ((hW.cell (p := ⟨w.heap.size, 0, none⟩) hsz).trans hcell) (Nat.lt_of_lt_of_le hsz hW.size)))
    clear hen hp
    go_enter Try.func29, Try.ntmps29
    go_wp2_with (first | rw [← HW2.out] | (go_at_call 57; refine (isBit2_any _ _).mono ?_; rintro e w' ⟨rfl, rfl⟩; rw [HP.out]))
    refine (HC.out).mono ?_
    rintro e w2 ⟨a2, n2, c2, rfl, ho2, hb2⟩
    go_wp2_with fail
    go_ret2
    exact ⟨_, _, _, rfl, ho2.up hal.size, hal.trans (hb2.mono hal.size)⟩
end Go.Proofs.Ytglehpmaniabbaa
