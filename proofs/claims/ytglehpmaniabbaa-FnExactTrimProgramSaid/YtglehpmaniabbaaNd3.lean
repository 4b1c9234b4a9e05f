/-
  The language: which lines results are made of: the reference walked.
-/
import Derived.Test.YtglehpmaniabbaaNd2
namespace Go.Proofs.Ytglehpmaniabbaa
open Go.RowKit
set_option linter.unusedVariables false
set_option linter.unusedSimpArgs false

theorem mixL_at {ls : List Ln} {bs : List Bool} {i : Nat} {x : Ln} (hi : i < ls.length) (hx : ls[i]? = some x) : (mixL ls bs i).getD i false = (bs.getD i false || isOut x) := by
  rw [List.getD_eq_getElem?_getD, mixL_get hi, hx]; simp
theorem mixL_next {ls : List Ln} {bs : List Bool} {i : Nat} (hi : i < ls.length) : (mixL ls bs (i + 1)).getD i false = bs.getD i false := by
  rw [List.getD_eq_getElem?_getD, mixL_get hi]; simp
  intro h; omega
theorem set_keeps {bs : List Bool} {f q : Nat} {c : Bool} (h : (bs.getD q false || c) = true) : ((bs.set f true).getD q false || c) = true := by
  by_cases he : f = q
  · subst he
    by_cases hl : f < bs.length
    · rw [List.getD_eq_getElem?_getD, List.getElem?_set, if_pos rfl, if_pos hl]; rfl
    · rw [List.set_eq_of_length_le (by omega)]; exact h
  · rw [List.getD_eq_getElem?_getD, List.getElem?_set_ne he, ← List.getD_eq_getElem?_getD]; exact h
set_option maxRecDepth 20000 in
set_option maxHeartbeats 8000000 in
theorem laNeeded_any (w : World) (ao : Option Addr) (n c : Nat) (ls : List Ln) (h : Lns w w.heap.size ao n ls) (hg : laGoodF ls = true) :
    Calls Try.prog 37 #[.slice ao n c] w (RetNd (mixL ls (ndL ls n) 0) n w) := by
  have hn := h.le
  have h30 : n ≤ 30 := by
    have hg2 := hg
    unfold laGoodF at hg2
    rw [Bool.and_eq_true] at hg2
    have := h.1
    have h3 : ls.length ≤ 30 := by simpa using hg2.1
    omega
  have hl := Lib.hid h.1
  have HG := Lib.hid hg
  have HFA := Lib.hid (fun p => find_agree ((widths_good ls).2 hg).2.2.2 p)
  obtain ⟨i0, hi, hz0, hz1, hz2⟩ := info_parts bool_info
  clear hg
  go_enter Try.func37, Try.ntmps37
  go_wp2_with (at_make; refine wpList_make_full _ rfl _ _ 55 rfl w.heap.size 4 i0 (.bool false) 1 Try.underlying55 hi hz0 hz1 _ _ _ _ n rfl rfl rfl rfl (by rw [hz2]; omega) (by unfold maxLen; omega) (Nat.le_refl _) ?_; intro w2 hown2 hg2)
  have hlt2 := row_ltB hown2
  have hrow2 := made_bools hn hown2
  have hb2 : Below w.heap.size w w2 := (Below.refl _ _).grown hg2 (Nat.le_refl _) (by simp)
  clear hown2 hg2
  rw [show List.replicate n false = mixL ls (ndL ls 0) n from by rw [ndL, ← hl.out, mixL_full]] at hrow2
  go_loopw [4] (fun i wr => ∃ (t : Nat) (iv : Int), t ≤ n ∧ iv + t + 1 = n ∧ i = .int .i64 iv ∧ OwnB w.heap.size wr (some ⟨w.heap.size, 0, none⟩) n n (mixL ls (ndL ls t) (iv + 1).toNat) ∧ Below w.heap.size w wr) (fun i _ => (intOf i + 1).toNat)
  case atStart => exact ⟨0, (n : Int) - 1, Nat.zero_le _, by omega, rfl, by rw [show ((n : Int) - 1 + 1).toNat = n from by omega]; exact hrow2, hb2⟩
  case round =>
    obtain ⟨t, iv, ht, hiv, rfl, hob, hbel⟩ := hrel
    by_cases hlt : 0 ≤ iv
    · obtain ⟨q, rfl⟩ := Int.eq_ofNat_of_zero_le hlt
      have hqn : q < n := by omega
      obtain ⟨b, o, l, pa, pc, rfl, hb, hx, hps, g0, g1, g2, g3, g4, g5, g6⟩ := (h.below hbel (Nat.le_refl _)).at hqn
      have hpl := hps.le
      have HST : Hid (ndL ls (t + 1) = if (isOut l || (ndL ls t).getD q false) = true then markP ls (ndL ls t) l.parts else ndL ls t) := by
        show _ = _
        rw [ndL, show ls.length - 1 - t = q from by rw [hl.out]; omega]
        unfold stepN
        rw [hx]
      have HGP := Lib.hid (fun p hp => good_part (p := p) HG.out hx hp)
      have HBL := Lib.hid (ndL_length ls t)
      obtain ⟨bs, hbs⟩ : ∃ bs, bs = ndL ls t := ⟨_, rfl⟩
      rw [← hbs] at hob HST HBL
      rw [show ((q : Int) + 1).toNat = q + 1 from by omega] at hob
      have hql : q < ls.length := by rw [hl.out]; exact hqn
      have hcell := (hob.set hqn true).2.2.2
      rw [mixL_next hql] at hcell
      have hfr := (hob.set hqn true).2.2.1
      have hst : ∀ u : Bool, u = (bs.getD q false || isOut l) → OwnB w.heap.size (wr.setCell ⟨w.heap.size, q, none⟩ (.bool u)) (some ⟨w.heap.size, 0, none⟩) n n (mixL ls bs q) ∧ Below w.heap.size w (wr.setCell ⟨w.heap.size, q, none⟩ (.bool u)) ∧ Strs (wr.setCell ⟨w.heap.size, q, none⟩ (.bool u)) w.heap.size pa l.parts.length l.parts ∧ (wr.setCell ⟨w.heap.size, q, none⟩ (.bool u)).cell? ⟨b, o + q * 7 + 3, none⟩ = some (.slice pa l.parts.length pc) := by
        intro u hu
        have h1 := (hob.set hqn u).1
        rw [hu, mixL_here hql hx, ← hu] at h1
        have h2 := below_setB (Below.refl w.heap.size wr) hob hqn u hbel.size
        exact ⟨h1, below_setB hbel hob hqn u hbel.size, hps.below h2 (Nat.le_refl _), (h2.cell (p := ⟨b, o + q * 7 + 3, none⟩) hb).trans g3⟩
      have HSTO := Lib.hid hst
      have HXX := Lib.hid hx
      clear hx hbs hob hst
      obtain ⟨v, hv⟩ : ∃ v, v = bs.getD q false := ⟨_, rfl⟩
      rw [← hv] at hcell
      have HV := Lib.hid hv
      clear hv
      cases v
      · cases k6 : (l.kind == 6)
        · have hio : isOut l = false := k6
          obtain ⟨hob7, hbw7, hps7, hd7⟩ := HSTO.out false (by rw [← HV.out, hio]; rfl)
          have HST2 : Hid (ndL ls (t + 1) = bs) := by show _ = _; rw [HST.out, hio, ← HV.out]; rfl
          have HNO : Hid ((mixL ls bs q).getD q false = false) := by show _ = _; rw [mixL_at hql HXX.out, ← HV.out, hio]; rfl
          obtain ⟨W7, hW7⟩ : ∃ W7, W7 = wr.setCell ⟨w.heap.size, q, none⟩ (.bool false) := ⟨_, rfl⟩
          rw [← hW7] at hob7 hbw7 hps7 hd7
          have HW7 := Lib.hid hW7
          clear hio hW7
          go_wp2_with (rw [← HW7.out])
          go_loopw [38] (fun idx wq => ∃ m : Nat, m ≤ l.parts.length ∧ idx = .int .i64 m ∧ OwnB w.heap.size wq (some ⟨w.heap.size, 0, none⟩) n n (mixL ls bs q) ∧ Strs wq w.heap.size pa l.parts.length l.parts ∧ Below w.heap.size w wq) (fun idx _ => l.parts.length - (intOf idx).toNat)
          case atStart => exact ⟨0, Nat.zero_le _, rfl, hob7, hps7, hbw7⟩
          case round =>
            obtain ⟨m, hm, rfl, hobq, hpsq, hbq⟩ := hrel
            by_cases hltm : m < l.parts.length
            · obtain ⟨b9, o9, p, rfl, hb9, hxp, q9⟩ := hpsq.at hltm
              have hcq := (hobq.set hqn true).2.2.2
              rw [HNO.out] at hcq
              clear hxp
              go_wp2_with fail
              go_roundw
              case rel => exact ⟨m + 1, by omega, by go_num, hobq, hpsq, hbq⟩
              case measure => simp [intOf] <;> omega
            · obtain rfl : m = l.parts.length := by omega
              go_wp2_with fail
              go_roundw
              case rel => exact ⟨t + 1, (q : Int) - 1, by omega, by omega, by go_num, by rw [HST2.out, show ((q : Int) - 1 + 1).toNat = q from by omega]; exact hobq, hbq⟩
              case measure => simp [intOf] <;> omega
        · have hio : isOut l = true := k6
          have HTR : Hid ((bs.getD q false || isOut l) = true) := by show _ = _; rw [hio]; simp
          obtain ⟨hob7, hbw7, hps7, hd7⟩ := HSTO.out true HTR.out.symm
          have HST2 : Hid (ndL ls (t + 1) = markP ls bs l.parts) := by show _ = _; rw [HST.out, hio]; rfl
          clear hio
          obtain ⟨W7, hW7⟩ : ∃ W7, W7 = wr.setCell ⟨w.heap.size, q, none⟩ (.bool true) := ⟨_, rfl⟩
          rw [← hW7] at hob7 hbw7 hps7 hd7
          have HW7 := Lib.hid hW7
          clear hW7
          go_wp2_with (rw [← HW7.out])
          go_loopw [38] (fun idx wq => ∃ m : Nat, m ≤ l.parts.length ∧ idx = .int .i64 m ∧ OwnB w.heap.size wq (some ⟨w.heap.size, 0, none⟩) n n (mixL ls (markP ls bs (l.parts.take m)) q) ∧ Hid (((markP ls bs (l.parts.take m)).getD q false || isOut l) = true) ∧ Hid ((markP ls bs (l.parts.take m)).length = ls.length) ∧ Strs wq w.heap.size pa l.parts.length l.parts ∧ Below w.heap.size w wq) (fun idx _ => l.parts.length - (intOf idx).toNat)
          case atStart => exact ⟨0, Nat.zero_le _, rfl, hob7, HTR.out, HBL.out, hps7, hbw7⟩
          case round =>
            obtain ⟨m, hm, rfl, hobq, HTQ, HLQ, hpsq, hbq⟩ := hrel
            by_cases hltm : m < l.parts.length
            · obtain ⟨b9, o9, p, rfl, hb9, hxp, q9⟩ := hpsq.at hltm
              have HMS := Lib.hid (markP_snoc (ls := ls) (bs := bs) hxp)
              obtain ⟨hf0, hf1⟩ := HGP.out p (List.mem_of_getElem? hxp)
              have hLq := h.below hbq (Nat.le_refl _)
              have hcq := (hobq.set hqn true).2.2.2
              rw [mixL_at hql HXX.out, HTQ.out] at hcq
              clear hxp
              go_wp2_with fail
              refine (laFind_any _ _ _ _ _ _ p hLq hbq.size).mono ?_
              rintro e w5 ⟨rfl, hb5⟩
              obtain ⟨f, hf⟩ := Int.eq_ofNat_of_zero_le hf0
              have hfn : f < n := by rw [← hl.out]; omega
              have hob5 := hobq.below hb5 (Nat.le_refl _)
              have hps5 := hpsq.below hb5 hbq.size
              have hbw5 := hbq.trans (hb5.mono hbq.size)
              obtain ⟨hs1, hs2, hs3, hs4⟩ := hob5.set hfn true
              rw [mixL_set HLQ.out (by rw [hl.out]; exact hfn)] at hs1
              have hbw6 := below_setB hbw5 hob5 hfn true hbw5.size
              have HMS2 : Hid (markP ls bs (l.parts.take (m + 1)) = (markP ls bs (l.parts.take m)).set f true) := by show _ = _; rw [HMS.out, hf]; rfl
              have HS1 := Lib.hid hs1
              have HPS6 := Lib.hid (show Strs (w5.setCell ⟨w.heap.size, f, none⟩ (.bool true)) w.heap.size (some ⟨b9, o9, none⟩) l.parts.length l.parts from hps5.below (below_setB (Below.refl w.heap.size w5) hob5 hfn true hbw5.size) (Nat.le_refl _))
              rw [hf]
              have hfi : (f : Int) < n := by omega
              clear hf hf0 hf1 hs1 hs2 hcq
              go_wp2_with fail
              go_roundw
              case rel => exact ⟨m + 1, by omega, by go_num, by rw [HMS2.out]; exact HS1.out, by rw [HMS2.out]; exact set_keeps HTQ.out, by rw [HMS2.out, List.length_set]; exact HLQ.out, HPS6.out, hbw6⟩
              case measure => simp [intOf] <;> omega
            · obtain rfl : m = l.parts.length := by omega
              rw [List.take_length] at hobq
              go_wp2_with fail
              go_roundw
              case rel => exact ⟨t + 1, (q : Int) - 1, by omega, by omega, by go_num, by rw [HST2.out, show ((q : Int) - 1 + 1).toNat = q from by omega]; exact hobq, hbq⟩
              case measure => simp [intOf] <;> omega
      · have HTR : Hid ((bs.getD q false || isOut l) = true) := by show _ = _; rw [← HV.out]; rfl
        obtain ⟨hob7, hbw7, hps7, hd7⟩ := HSTO.out true HTR.out.symm
        have HST2 : Hid (ndL ls (t + 1) = markP ls bs l.parts) := by show _ = _; rw [HST.out, ← HV.out]; simp
        obtain ⟨W7, hW7⟩ : ∃ W7, W7 = wr.setCell ⟨w.heap.size, q, none⟩ (.bool true) := ⟨_, rfl⟩
        rw [← hW7] at hob7 hbw7 hps7 hd7
        have HW7 := Lib.hid hW7
        clear hW7
        go_wp2_with (rw [← HW7.out])
        go_loopw [38] (fun idx wq => ∃ m : Nat, m ≤ l.parts.length ∧ idx = .int .i64 m ∧ OwnB w.heap.size wq (some ⟨w.heap.size, 0, none⟩) n n (mixL ls (markP ls bs (l.parts.take m)) q) ∧ Hid (((markP ls bs (l.parts.take m)).getD q false || isOut l) = true) ∧ Hid ((markP ls bs (l.parts.take m)).length = ls.length) ∧ Strs wq w.heap.size pa l.parts.length l.parts ∧ Below w.heap.size w wq) (fun idx _ => l.parts.length - (intOf idx).toNat)
        case atStart => exact ⟨0, Nat.zero_le _, rfl, hob7, HTR.out, HBL.out, hps7, hbw7⟩
        case round =>
          obtain ⟨m, hm, rfl, hobq, HTQ, HLQ, hpsq, hbq⟩ := hrel
          by_cases hltm : m < l.parts.length
          · obtain ⟨b9, o9, p, rfl, hb9, hxp, q9⟩ := hpsq.at hltm
            have HMS := Lib.hid (markP_snoc (ls := ls) (bs := bs) hxp)
            obtain ⟨hf0, hf1⟩ := HGP.out p (List.mem_of_getElem? hxp)
            have hLq := h.below hbq (Nat.le_refl _)
            have hcq := (hobq.set hqn true).2.2.2
            rw [mixL_at hql HXX.out, HTQ.out] at hcq
            clear hxp
            go_wp2_with fail
            refine (laFind_any _ _ _ _ _ _ p hLq hbq.size).mono ?_
            rintro e w5 ⟨rfl, hb5⟩
            obtain ⟨f, hf⟩ := Int.eq_ofNat_of_zero_le hf0
            have hfn : f < n := by rw [← hl.out]; omega
            have hob5 := hobq.below hb5 (Nat.le_refl _)
            have hps5 := hpsq.below hb5 hbq.size
            have hbw5 := hbq.trans (hb5.mono hbq.size)
            obtain ⟨hs1, hs2, hs3, hs4⟩ := hob5.set hfn true
            rw [mixL_set HLQ.out (by rw [hl.out]; exact hfn)] at hs1
            have hbw6 := below_setB hbw5 hob5 hfn true hbw5.size
            have HMS2 : Hid (markP ls bs (l.parts.take (m + 1)) = (markP ls bs (l.parts.take m)).set f true) := by show _ = _; rw [HMS.out, hf]; rfl
            have HS1 := Lib.hid hs1
            have HPS6 := Lib.hid (show Strs (w5.setCell ⟨w.heap.size, f, none⟩ (.bool true)) w.heap.size (some ⟨b9, o9, none⟩) l.parts.length l.parts from hps5.below (below_setB (Below.refl w.heap.size w5) hob5 hfn true hbw5.size) (Nat.le_refl _))
            rw [hf]
            have hfi : (f : Int) < n := by omega
            clear hf hf0 hf1 hs1 hs2 hcq
            go_wp2_with fail
            go_roundw
            case rel => exact ⟨m + 1, by omega, by go_num, by rw [HMS2.out]; exact HS1.out, by rw [HMS2.out]; exact set_keeps HTQ.out, by rw [HMS2.out, List.length_set]; exact HLQ.out, HPS6.out, hbw6⟩
            case measure => simp [intOf] <;> omega
          · obtain rfl : m = l.parts.length := by omega
            rw [List.take_length] at hobq
            go_wp2_with fail
            go_roundw
            case rel => exact ⟨t + 1, (q : Int) - 1, by omega, by omega, by go_num, by rw [HST2.out, show ((q : Int) - 1 + 1).toNat = q from by omega]; exact hobq, hbq⟩
            case measure => simp [intOf] <;> omega
    · obtain rfl : t = n := by omega
      obtain rfl : iv = -1 := by omega
      go_wp2_with fail
      go_ret
      exact ⟨_, rfl, hob, hbel⟩
end Go.Proofs.Ytglehpmaniabbaa
