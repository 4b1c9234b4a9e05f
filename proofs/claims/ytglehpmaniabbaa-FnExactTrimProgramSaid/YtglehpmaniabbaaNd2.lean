/-
  The language: which lines results are made of: the program and the reference walked.
-/
import Derived.Test.YtglehpmaniabbaaNd1
namespace Go.Proofs.Ytglehpmaniabbaa
open Go.RowKit
set_option linter.unusedVariables false
set_option linter.unusedSimpArgs false

def RetNd (bs : List Bool) (n : Nat) (w : World) (e : Ending) (w' : World) : Prop := ∃ g, e = .returned (.slice (some ⟨g, 0, none⟩) n n) ∧ OwnB w.heap.size w' (some ⟨g, 0, none⟩) n n bs ∧ Below w.heap.size w w'
theorem row_ltB {w : World} {B g n : Nat} {cs : List Value} (h : w.ownsRow B 4 1 (.slice (some ⟨g, 0, none⟩) n n) n cs) : g < w.heap.size := by
  rcases h.2 with ⟨h0, _⟩ | ⟨g', cap', cur, hv, _, hb, _⟩
  · cases h0
  · cases hv
    exact (Array.getElem?_eq_some_iff.1 hb).1
theorem OwnB.drewN {B : Nat} {w : World} {ao : Option Addr} {n cap : Nat} {bs : List Bool} (h : OwnB B w ao n cap bs) (k : Nat) : OwnB B (w.drewN k) ao n cap bs := h
theorem below_setB {B g n : Nat} {w w' : World} {bs : List Bool} (hb : Below B w w') (ho : OwnB B w' (some ⟨g, 0, none⟩) n n bs) {k : Nat} (hk : k < n) (v : Bool) (hB : B ≤ w'.heap.size) : Below B w (w'.setCell ⟨g, k, none⟩ (.bool v)) :=
  hb.grown (ho.set hk v).2.1 hB fun q hq => (ho.rowLt q hq).1
set_option maxRecDepth 20000 in
set_option maxHeartbeats 8000000 in
theorem needed_any (w : World) (ao : Option Addr) (n c : Nat) (ls : List Ln) (h : Lns w w.heap.size ao n ls) (hg : laGoodF ls = true) :
    Calls Try.prog 40 #[.slice ao n c] w (RetNd (ndL ls n) n w) := by
  have hn := h.le
  have h30 : n ≤ 30 := by
    have hg2 := hg
    unfold laGoodF at hg2
    rw [Bool.and_eq_true] at hg2
    have := h.1
    have h3 : ls.length ≤ 30 := by simpa using hg2.1
    omega
  have hl := Lib.hid h.1
  have HG := Lib.hid hg
  have HFA := Lib.hid (fun p => find_agree ((widths_good ls).2 hg).2.2.2 p)
  obtain ⟨i0, hi, hz0, hz1, hz2⟩ := info_parts bool_info
  clear hg
  go_enter Try.func40, Try.ntmps40
  go_wp2_with (at_make; refine wpList_make_full _ rfl _ _ 55 rfl w.heap.size 4 i0 (.bool false) 1 Try.underlying55 hi hz0 hz1 _ _ _ _ n rfl rfl rfl rfl (by rw [hz2]; omega) (by unfold maxLen; omega) (Nat.le_refl _) ?_; intro w2 hown2 hg2)
  have hlt2 := row_ltB hown2
  have hrow2 := made_bools hn hown2
  have hb2 : Below w.heap.size w w2 := (Below.refl _ _).grown hg2 (Nat.le_refl _) (by simp)
  clear hown2 hg2
  rw [show List.replicate n false = ndL ls 0 from by rw [ndL, hl.out]] at hrow2
  go_loopw [4] (fun i wr => ∃ (t : Nat) (iv : Int), t ≤ n ∧ iv + t + 1 = n ∧ i = .int .i64 iv ∧ OwnB w.heap.size wr (some ⟨w.heap.size, 0, none⟩) n n (ndL ls t) ∧ Below w.heap.size w wr) (fun i _ => (intOf i + 1).toNat)
  case atStart => exact ⟨0, (n : Int) - 1, Nat.zero_le _, by omega, rfl, hrow2, hb2⟩
  case round =>
    obtain ⟨t, iv, ht, hiv, rfl, hob, hbel⟩ := hrel
    by_cases hlt : 0 ≤ iv
    · obtain ⟨q, rfl⟩ := Int.eq_ofNat_of_zero_le hlt
      have hqn : q < n := by omega
      obtain ⟨b, o, l, pa, pc, rfl, hb, hx, hps, g0, g1, g2, g3, g4, g5, g6⟩ := (h.below hbel (Nat.le_refl _)).at hqn
      have hpl := hps.le
      have HST : Hid (ndL ls (t + 1) = if (isOut l || (ndL ls t).getD q false) = true then markP ls (ndL ls t) l.parts else ndL ls t) := by
        show _ = _
        rw [ndL, show ls.length - 1 - t = q from by rw [hl.out]; omega]
        unfold stepN
        rw [hx]
      have HGP := Lib.hid (fun p hp => good_part (p := p) HG.out hx hp)
      obtain ⟨bs, hbs⟩ : ∃ bs, bs = ndL ls t := ⟨_, rfl⟩
      rw [← hbs] at hob HST
      have hcell := (hob.set hqn true).2.2.2
      have hfr := (hob.set hqn true).2.2.1
      clear hx hbs
      cases k6 : (l.kind == 6)
      · have hio : isOut l = false := k6
        have b6 : (l.kind != 6) = true := by simp only [bne, k6]; rfl
        obtain ⟨v, hv⟩ : ∃ v, v = bs.getD q false := ⟨_, rfl⟩
        rw [← hv] at hcell HST
        cases v
        · have HST2 : Hid (ndL ls (t + 1) = bs) := by show _ = _; rw [HST.out, hio]; rfl
          have HOB := Lib.hid hob
          clear hv hio hob
          go_wp2_with fail
          go_roundw
          case rel => exact ⟨t + 1, (q : Int) - 1, by omega, by omega, by go_num, by rw [HST2.out]; exact HOB.out, hbel⟩
          case measure => simp [intOf] <;> omega
        · have HST2 : Hid (ndL ls (t + 1) = markP ls bs l.parts) := by show _ = _; rw [HST.out, hio]; rfl
          have HOB := Lib.hid hob
          clear hv hio hob
          go_wp2_with fail
          go_loopw [36] (fun idx wq => ∃ m : Nat, m ≤ l.parts.length ∧ idx = .int .i64 m ∧ OwnB w.heap.size wq (some ⟨w.heap.size, 0, none⟩) n n (markP ls bs (l.parts.take m)) ∧ Strs wq w.heap.size pa l.parts.length l.parts ∧ Below w.heap.size w wq) (fun idx _ => l.parts.length - (intOf idx).toNat)
          case atStart => exact ⟨0, Nat.zero_le _, rfl, HOB.out, hps, hbel⟩
          case round =>
            obtain ⟨m, hm, rfl, hobq, hpsq, hbq⟩ := hrel
            by_cases hltm : m < l.parts.length
            · obtain ⟨b9, o9, p, rfl, hb9, hxp, q9⟩ := hpsq.at hltm
              have HMS := Lib.hid (markP_snoc (ls := ls) (bs := bs) hxp)
              obtain ⟨hf0, hf1⟩ := HGP.out p (List.mem_of_getElem? hxp)
              have hLq := h.below hbq (Nat.le_refl _)
              clear hxp
              go_wp2_with fail
              refine (lineOf_any _ _ _ _ _ _ p hLq hbq.size).mono ?_
              rintro e w5 ⟨rfl, hb5⟩
              rw [← HFA.out p]
              obtain ⟨f, hf⟩ := Int.eq_ofNat_of_zero_le hf0
              have hfn : f < n := by rw [← hl.out]; omega
              have hob5 := hobq.below hb5 (Nat.le_refl _)
              have hps5 := hpsq.below hb5 hbq.size
              have hbw5 := hbq.trans (hb5.mono hbq.size)
              obtain ⟨hs1, hs2, hs3, hs4⟩ := hob5.set hfn true
              have hbw6 := below_setB hbw5 hob5 hfn true hbw5.size
              have HMS2 : Hid (markP ls bs (l.parts.take (m + 1)) = (markP ls bs (l.parts.take m)).set f true) := by show _ = _; rw [HMS.out, hf]; rfl
              have HS1 := Lib.hid hs1
              have HPS6 := Lib.hid (show Strs (w5.setCell ⟨w.heap.size, f, none⟩ (.bool true)) w.heap.size (some ⟨b9, o9, none⟩) l.parts.length l.parts from hps5.below (below_setB (Below.refl w.heap.size w5) hob5 hfn true hbw5.size) (Nat.le_refl _))
              rw [hf]
              have hfi : (f : Int) < n := by omega
              clear hf hf0 hf1 hs1 hs2
              go_wp2_with fail
              go_roundw
              case rel => exact ⟨m + 1, by omega, by go_num, by rw [HMS2.out]; exact HS1.out, HPS6.out, hbw6⟩
              case measure => simp [intOf] <;> omega
            · obtain rfl : m = l.parts.length := by omega
              rw [List.take_length] at hobq
              go_wp2_with fail
              go_roundw
              case rel => exact ⟨t + 1, (q : Int) - 1, by omega, by omega, by go_num, by rw [HST2.out]; exact hobq, hbq⟩
              case measure => simp [intOf] <;> omega
      · have HST2 : Hid (ndL ls (t + 1) = markP ls bs l.parts) := by show _ = _; rw [HST.out, show isOut l = true from k6]; rfl
        have b6 : (l.kind != 6) = false := by simp only [bne, k6]; rfl
        have HOB := Lib.hid hob
        clear hob
        go_wp2_with fail
        go_loopw [36] (fun idx wq => ∃ m : Nat, m ≤ l.parts.length ∧ idx = .int .i64 m ∧ OwnB w.heap.size wq (some ⟨w.heap.size, 0, none⟩) n n (markP ls bs (l.parts.take m)) ∧ Strs wq w.heap.size pa l.parts.length l.parts ∧ Below w.heap.size w wq) (fun idx _ => l.parts.length - (intOf idx).toNat)
        case atStart => exact ⟨0, Nat.zero_le _, rfl, HOB.out, hps, hbel⟩
        case round =>
          obtain ⟨m, hm, rfl, hobq, hpsq, hbq⟩ := hrel
          by_cases hltm : m < l.parts.length
          · obtain ⟨b9, o9, p, rfl, hb9, hxp, q9⟩ := hpsq.at hltm
            have HMS := Lib.hid (markP_snoc (ls := ls) (bs := bs) hxp)
            obtain ⟨hf0, hf1⟩ := HGP.out p (List.mem_of_getElem? hxp)
            have hLq := h.below hbq (Nat.le_refl _)
            clear hxp
            go_wp2_with fail
            refine (lineOf_any _ _ _ _ _ _ p hLq hbq.size).mono ?_
            rintro e w5 ⟨rfl, hb5⟩
            rw [← HFA.out p]
            obtain ⟨f, hf⟩ := Int.eq_ofNat_of_zero_le hf0
            have hfn : f < n := by rw [← hl.out]; omega
            have hob5 := hobq.below hb5 (Nat.le_refl _)
            have hps5 := hpsq.below hb5 hbq.size
            have hbw5 := hbq.trans (hb5.mono hbq.size)
            obtain ⟨hs1, hs2, hs3, hs4⟩ := hob5.set hfn true
            have hbw6 := below_setB hbw5 hob5 hfn true hbw5.size
            have HMS2 : Hid (markP ls bs (l.parts.take (m + 1)) = (markP ls bs (l.parts.take m)).set f true) := by show _ = _; rw [HMS.out, hf]; rfl
            have HS1 := Lib.hid hs1
            have HPS6 := Lib.hid (show Strs (w5.setCell ⟨w.heap.size, f, none⟩ (.bool true)) w.heap.size (some ⟨b9, o9, none⟩) l.parts.length l.parts from hps5.below (below_setB (Below.refl w.heap.size w5) hob5 hfn true hbw5.size) (Nat.le_refl _))
            rw [hf]
            have hfi : (f : Int) < n := by omega
            clear hf hf0 hf1 hs1 hs2
            go_wp2_with fail
            go_roundw
            case rel => exact ⟨m + 1, by omega, by go_num, by rw [HMS2.out]; exact HS1.out, HPS6.out, hbw6⟩
            case measure => simp [intOf] <;> omega
          · obtain rfl : m = l.parts.length := by omega
            rw [List.take_length] at hobq
            go_wp2_with fail
            go_roundw
            case rel => exact ⟨t + 1, (q : Int) - 1, by omega, by omega, by go_num, by rw [HST2.out]; exact hobq, hbq⟩
            case measure => simp [intOf] <;> omega
    · obtain rfl : t = n := by omega
      go_wp2_with fail
      go_ret
      exact ⟨_, rfl, hob, hbel⟩
end Go.Proofs.Ytglehpmaniabbaa
