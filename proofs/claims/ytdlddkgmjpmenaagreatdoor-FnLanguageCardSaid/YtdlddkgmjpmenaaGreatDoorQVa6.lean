/-
  The language: the reference's values of all lines.
-/
import Derived.Test.YtdlddkgmjpmenaaGreatDoorQVa5
namespace Go.Proofs.YtdlddkgmjpmenaaGreatDoor
open Go.RowKit
set_option linter.unusedVariables false
set_option linter.unusedSimpArgs false

theorem ints_drop {w : World} {B b o n : Nat} {xs : List Int} {t : Nat} (h : Ints w B (some ⟨b, o, none⟩) n (xs.drop t)) : Ints w B (some ⟨b, o + 1, none⟩) (n - 1) (xs.drop (t + 1)) := by
  obtain ⟨h1, h2, h3⟩ := h
  refine ⟨by rw [← h1]; simp; omega, by omega, ?_⟩
  rcases h3 with h3 | ⟨b', o', e, hlt, hc⟩
  · left
    simp at h3 ⊢
    omega
  · simp only [Option.some.injEq, Addr.mk.injEq] at e
    obtain ⟨rfl, rfl, _⟩ := e
    refine .inr ⟨b, o + 1, rfl, hlt, fun j u hu => ?_⟩
    have := hc (j + 1) u (by rw [← hu, List.map_drop, List.map_drop, List.getElem?_drop, List.getElem?_drop]; congr 1; omega)
    rw [← this]
    congr 2
    omega
theorem ints_drop' {w : World} {B b o n c : Nat} {xs : List Int} {t : Nat} (h : Ints w B (some ⟨b, o, none⟩) n (xs.drop t)) (hc : n ≤ c) : Ints w B (if c = 1 then some ⟨b, o, none⟩ else some ⟨b, o + 1, none⟩) (n - 1) (xs.drop (t + 1)) := by
  by_cases h1 : c = 1
  · rw [if_pos h1]
    have h2 := ints_drop h
    refine ⟨h2.1, h2.2.1, .inl ?_⟩
    have h3 := h2.1
    have h4 : xs.drop (t + 1) = [] := List.eq_nil_of_length_eq_zero (by omega)
    rw [h4]; rfl
  · rw [if_neg h1]; exact ints_drop h
theorem ownI_row {w : World} {B m cap : Nat} {vo : Option Addr} {xs : List Int} (h : OwnI B w vo m cap xs) (h0 : 0 < m) : ∃ g, vo = some ⟨g, 0, none⟩ ∧ ∀ i y, xs[i]? = some y → w.cell? ⟨g, i, none⟩ = some (.int .i64 y) := by
  obtain ⟨h1, h2, h3⟩ := h
  rcases h3 with ⟨_, h3, _⟩ | ⟨g, rfl, h3⟩
  · omega
  · exact ⟨g, rfl, fun i y hy => rowI_at h3 h2 hy⟩
theorem ints_grown {w w' : World} {B n : Nat} {ao : Option Addr} {xs : List Int} {o : Option Nat} (h : Ints w B ao n xs) (hg : w.grownBy w' o) (hB : B ≤ w.heap.size) (ho : ∀ q, o = some q → B ≤ q) : Ints w' B ao n xs :=
  h.below ((Below.refl B w).grown hg hB ho) (Nat.le_refl _)
theorem last_take {f : ByteArray → Int} {ps : List ByteArray} {m : Nat} {p : ByteArray} (h : ps[m]? = some p) : ((ps.map f).take (m + 1)).getLastD 0 = f p := by
  rw [map_take_snoc h]; simp
set_option maxRecDepth 100000 in
set_option maxHeartbeats 8000000 in
theorem laValues_any (w : World) (ao aa ba : Option Addr) (n c na ca nb cb : Nat) (ls : List Ln) (a b : List Int) (h : Lns w w.heap.size ao n ls) (hs : okS ls) (hnc : n ≤ c) (ha : Ints w w.heap.size aa na a) (hb : Ints w w.heap.size ba nb b) (hca : na ≤ ca) (hcb : nb ≤ cb) (hq : askedB ls a b = true) :
    Calls Tryz.prog 39 #[.slice ao n c, .slice aa na ca, .slice ba nb cb] w (RetI (valsL ls a b) w) := by
  have hn := h.le
  have hl := Lib.hid h.1
  have HQ := Lib.hid hq
  have HG := Lib.hid (asked_good hq).1
  have h30 := good_len3 HG.out
  rw [hl.out] at h30
  clear hq
  go_enter Tryz.func39, Tryz.ntmps39
  go_wp2_with fail
  refine (laWidths_any _ _ _ _ _ h hs (by omega) hnc).mono ?_
  rintro e w1 ⟨l1, n1, c1, rfl, ho1, hb1⟩
  obtain rfl : n1 = n := by have := ho1.1; rw [laWidths_length, hl.out] at this; exact this.symm
  have HI1 := Lib.hid ho1.ints
  have h1 := h.below hb1 (Nat.le_refl _)
  have HA1 := ha.below hb1 (Nat.le_refl _)
  have HB1 := hb.below hb1 (Nat.le_refl _)
  clear ho1
  go_wp2_with fail
  go_loopw [1, 2, 8, 20] (fun x1 x2 out i wr => ∃ (k : Nat) (co : Option Addr) (cap : Nat) (aa' ba' : Option Addr) (ra ca' rb cb' : Nat), k ≤ n1 ∧ i = .int .i64 k ∧ out = .slice co k cap ∧ OwnI w1.heap.size wr co k cap (runV ls a b k).1 ∧ x1 = .slice aa' ra ca' ∧ ra ≤ ca' ∧ Ints wr w.heap.size aa' ra (a.drop (runV ls a b k).2.1) ∧ x2 = .slice ba' rb cb' ∧ rb ≤ cb' ∧ Ints wr w.heap.size ba' rb (b.drop (runV ls a b k).2.2) ∧ Below w1.heap.size w1 wr) (fun _ _ _ i _ => n1 - (intOf i).toNat)
  case atStart => exact ⟨0, _, _, _, _, _, _, _, _, Nat.zero_le _, rfl, rfl, OwnI.nil _ _ _, rfl, hca, HA1, rfl, hcb, HB1, Below.refl _ _⟩
  case round =>
    obtain ⟨k, co, cap, aa', ba', ra, ca', rb, cb', hk, rfl, rfl, hout, rfl, hca', hA, rfl, hcb', hB, hbel⟩ := hrel
    have hbelw := hb1.trans (hbel.mono hb1.size)
    by_cases hlt : k < n1
    · obtain ⟨b0, oo, l, pa, pc, rfl, hbb, hx, hps, g0, g1, g2, g3, g4, g5, g6⟩ := (h1.below hbel hb1.size).at hlt
      have HOK := Lib.hid (okV_run HQ.out k (by rw [hl.out]; exact hk))
      have HSTEP := Lib.hid (runV_step (a := a) (b := b) hx)
      have HGF := Lib.hid (fun p hp => good_find (p := p) HG.out hx hp)
      have HX := Lib.hid hx
      obtain ⟨s, hsv⟩ : ∃ s, s = runV ls a b k := ⟨_, rfl⟩
      rw [← hsv] at hout hA hB HOK HSTEP
      clear hx hsv
      obtain ⟨vs, t0, t1⟩ := s
      simp only [] at hout hA hB
      obtain ⟨wr, hwr⟩ := wname hbel
      subst hwr
      obtain ⟨W3, hW3⟩ : ∃ W3, W3 = wr.alloc (lineObj l pa pc) := ⟨_, rfl⟩
      have hal3 : Below wr.heap.size wr W3 := by rw [hW3]; exact (Below.refl _ _).alloc (Nat.le_refl _) _
      have hbx3 : BoxL W3 wr.heap.size l pa pc := by rw [hW3]; exact boxL_new _ _ _ _
      have hsz3 : wr.heap.size < W3.heap.size := by rw [hW3]; simp
      have HW3 := Lib.hid hW3
      clear hW3
      have hz1 := hbel.size
      have hz0 := hb1.size
      have hbel3 := hbel.trans (hal3.mono hbel.size)
      have hout3 := hout.below hal3 (Nat.le_refl _)
      have hA3 := hA.below hal3 (by omega)
      have hB3 := hB.below hal3 (by omega)
      have hps3 := hps.below hal3 (by omega)
      have HBX3 := Lib.hid hbx3
      have HAL3 := Lib.hid hal3
      clear hal3 hbx3
      obtain ⟨e0, e1, e2, e3, e4, e5, e6⟩ := HBX3.out
      have hpl : l.parts.length ≤ 1048576 := (okS_at hs HX.out).2.2
      unfold lineObj at HW3
      go_wp2_with (rw [← HW3.out])
      clear e0 e1 e2 e3 e4 e5 e6 g0 g1 g2 g3 g4 g5 g6
      go_loopw [11, 12, 27] (fun vals bits j wq => ∃ (m : Nat) (vo : Option Addr) (vcap : Nat) (bt : Int), m ≤ l.parts.length ∧ j = .int .i64 m ∧ vals = .slice vo m vcap ∧ bits = .int .i64 bt ∧ OwnI W3.heap.size wq vo m vcap ((pvL ls vs l).take m) ∧ Hid (((wideL ls (laWidths ls) l).take m).getLastD 0 = bt) ∧ Below W3.heap.size W3 wq) (fun _ _ j _ => l.parts.length - (intOf j).toNat)
      case atStart => exact ⟨0, _, _, _, Nat.zero_le _, rfl, rfl, rfl, OwnI.nil _ _ _, Lib.hid rfl, Below.refl _ _⟩
      case round =>
        obtain ⟨m, vo, vcap, bt, hm, rfl, rfl, rfl, hvo, HBT, hbq⟩ := hrel
        obtain ⟨wq, hwq⟩ := wname hbq
        subst hwq
        have hbq1 : Below w1.heap.size w1 wq := hbel3.trans (hbq.mono (by omega))
        have hzq := hbq.size
        by_cases hltm : m < l.parts.length
        · obtain ⟨b9, o9, p, rfl, hbb9, hxp, q9⟩ := (hps3.below hbq (by omega)).at hltm
          have hmem := List.mem_of_getElem? hxp
          have HPV := Lib.hid (map_take_snoc (f := fun p => atN vs (findF ls p)) hxp)
          have HPW := Lib.hid (last_take (f := fun p => atN (laWidths ls) (findF ls p)) hxp)
          obtain ⟨_, hf0, hf1⟩ := HGF.out p hmem
          have hL := h1.below hbq1 hz0
          clear hxp hmem
          go_wp2_with fail
          refine (laFind_any _ _ _ _ _ _ p hL (Nat.le_trans hz0 hbq1.size)).mono ?_
          rintro e w6 ⟨rfl, hb6⟩
          have hz6 := hb6.size
          have hbq6 := hbq.trans (hb6.mono (by omega))
          have hvo6 := hvo.below hb6 (Nat.le_refl _)
          obtain ⟨f, hf⟩ := Int.eq_ofNat_of_zero_le hf0
          have HF := Lib.hid hf
          rw [hf] at hf0 hf1 HPV HPW ⊢
          have hfk : f < k := by omega
          have hfn : f < n1 := by omega
          obtain ⟨b2, o2, y, rfl, hbb2, hy, q2⟩ := ((hout3.ints).below hbq6 (by omega)).at hfk
          obtain ⟨b3, o3, z, rfl, hbb3, hz, q3⟩ := (HI1.out.below (hbel3.trans (hbq6.mono (by omega))) (Nat.le_refl _)).at hfn
          rw [atN_get hy] at HPV
          rw [atN_get hz] at HPW
          clear hf hf0 hf1 hy hz
          have hm9 : m < 999999990 := by omega
          have hs6 : W3.heap.size ≤ w6.heap.size := by omega
          go_wp2_with (at_builtin; refine wpList_append_i rfl _ _ rfl W3.heap.size _ _ _ _ _ rfl (by first | rfl | (simp; rfl)) hvo6 (by omega) (by omega) ?_; intro vo' vcap' w7 hown7 hg7)
          have hb7 := hbq6.grown hg7 (by omega) (fun q hq => by have := hvo6.rowLt q hq; omega)
          have hL7 := h1.below (hbel3.trans (hb7.mono (by omega))) hz0
          refine (laFind_any _ _ _ _ _ _ p hL7 (by have := hb7.size; omega)).mono ?_
          rintro e w8 ⟨rfl, hb8⟩
          rw [HF.out]
          have hz7 := hb7.size
          have hb78 := hb7.trans (hb8.mono (by omega))
          have q3' := (hb78.cell (p := ⟨b3, o3 + f, none⟩) (by show b3 < W3.heap.size; omega)).trans ((hbq6.cell (p := ⟨b3, o3 + f, none⟩) (by show b3 < W3.heap.size; omega)).symm.trans q3)
          have hown8 := hown7.below hb8 (Nat.le_refl _)
          go_wp2_with fail
          go_roundw
          case rel => exact ⟨m + 1, vo', vcap', z, by omega, by go_num, rfl, rfl, by rw [show (pvL ls vs l).take (m + 1) = _ from HPV.out]; exact hown8, HPW, hb78⟩
          case measure => simp [intOf] <;> omega
        · obtain rfl : m = l.parts.length := by omega
          rw [List.take_of_length_le (by simp [pvL])] at hvo
          rw [List.take_of_length_le (by simp [wideL])] at HBT
          have hrq : Below wr.heap.size wr wq := HAL3.out.trans (hbq.mono (by omega))
          have houtq := hout.below hrq (Nat.le_refl _)
          have hAq := hA.below hrq (by omega)
          have hBq := hB.below hrq (by omega)
          have hbelq := hbel.trans (hrq.mono (by omega))
          have hzD : ∀ n, (wq.drewN n).heap.size = wq.heap.size := fun _ => rfl
          have houtD : ∀ n, OwnI w1.heap.size (wq.drewN n) co k cap vs := fun n => houtq.below (bdrewN (Below.refl _ _) n) (Nat.le_refl _)
          have hbelD : ∀ n, Below w1.heap.size w1 (wq.drewN n) := fun n => bdrewN hbelq n
          have hAD : ∀ n, Ints (wq.drewN n) w.heap.size aa' ra (a.drop t0) := fun n => hAq.below (bdrewN (Below.refl wq.heap.size _) n) (by omega)
          have hBD : ∀ n, Ints (wq.drewN n) w.heap.size ba' rb (b.drop t1) := fun n => hBq.below (bdrewN (Below.refl wq.heap.size _) n) (by omega)
          have hl9 : l.parts.length ≤ 1000000000 := by omega
          obtain ⟨e0, e1, e2, e3, e4, e5, e6⟩ := HBX3.out.below hbq hsz3
          have HVO := Lib.hid hvo
          clear hvo
          have HKIND := Lib.hid (kind_any HQ.out HX.out HOK.out)
          rcases HKIND.out with k1 | k1 | k1 | k1 | k1 | k1
          · rw [k1] at e0
            rcases kind1_val HQ.out HX.out HOK.out k1 with ⟨hp, v, hv, hval⟩ | ⟨hp, v, hv, hval⟩
            · have HST2 : Hid (runV ls a b (k + 1) = (vs ++ [v], t0 + 1, t1)) := by
                show _ = _
                rw [HSTEP.out]
                unfold stepV
                simp only []
                rw [hval, if_pos ⟨k1, by omega⟩, if_neg (by omega)]
              rw [hp] at e4
              have hv0 : (a.drop t0)[0]? = some v := by rw [List.getElem?_drop]; exact hv
              have hr0 : 0 < ra := by rw [← hAq.1]; exact (List.getElem?_eq_some_iff.1 hv0).1
              obtain ⟨b5, o5, v', rfl, hbb5, hv5, q5⟩ := hAq.at hr0
              rw [hv0] at hv5
              obtain rfl : v = v' := by simpa using hv5
              rw [Nat.add_zero] at q5
              have hD := ints_drop' hAq hca'
              clear hv hval hv5 hp hv0 k1
              go_wp2_with (first | (at_builtin; refine wpList_append_i rfl _ _ rfl w1.heap.size _ _ _ _ _ rfl (by first | rfl | (simp; rfl)) houtq (by omega) (by omega) ?_; intro ao' cap' w9 hown9 hg9))
              have hbe9 := hbelq.grown hg9 (by omega) (fun q hq => by have := houtq.rowLt q hq; omega)
              have hA9 := ints_grown hD hg9 (by omega) (fun q hq => by have := houtq.rowLt q hq; omega)
              have hB9 := ints_grown hBq hg9 (by omega) (fun q hq => by have := houtq.rowLt q hq; omega)
              go_roundw
              case rel => exact ⟨k + 1, ao', cap', _, _, _, _, _, _, by omega, by go_num, rfl, by rw [HST2.out]; exact hown9, rfl, by omega, by rw [HST2.out]; exact hA9, rfl, by omega, by rw [HST2.out]; exact hB9, hbe9⟩
              case measure => simp [intOf] <;> omega
            · have HST2 : Hid (runV ls a b (k + 1) = (vs ++ [v], t0, t1 + 1)) := by
                show _ = _
                rw [HSTEP.out]
                unfold stepV
                simp only []
                rw [hval, if_neg (by omega), if_pos ⟨k1, by omega⟩]
              rw [hp] at e4
              have hv0 : (b.drop t1)[0]? = some v := by rw [List.getElem?_drop]; exact hv
              have hr0 : 0 < rb := by rw [← hBq.1]; exact (List.getElem?_eq_some_iff.1 hv0).1
              obtain ⟨b5, o5, v', rfl, hbb5, hv5, q5⟩ := hBq.at hr0
              rw [hv0] at hv5
              obtain rfl : v = v' := by simpa using hv5
              rw [Nat.add_zero] at q5
              have hD := ints_drop' hBq hcb'
              clear hv hval hv5 hp hv0 k1
              go_wp2_with (first | (at_builtin; refine wpList_append_i rfl _ _ rfl w1.heap.size _ _ _ _ _ rfl (by first | rfl | (simp; rfl)) houtq (by omega) (by omega) ?_; intro ao' cap' w9 hown9 hg9))
              have hbe9 := hbelq.grown hg9 (by omega) (fun q hq => by have := houtq.rowLt q hq; omega)
              have hA9 := ints_grown hAq hg9 (by omega) (fun q hq => by have := houtq.rowLt q hq; omega)
              have hB9 := ints_grown hD hg9 (by omega) (fun q hq => by have := houtq.rowLt q hq; omega)
              go_roundw
              case rel => exact ⟨k + 1, ao', cap', _, _, _, _, _, _, by omega, by go_num, rfl, by rw [HST2.out]; exact hown9, rfl, by omega, by rw [HST2.out]; exact hA9, rfl, by omega, by rw [HST2.out]; exact hB9, hbe9⟩
              case measure => simp [intOf] <;> omega
          · rw [k1] at e0
            have hval := kind2_val HQ.out HX.out HOK.out k1
            have HST2 : Hid (runV ls a b (k + 1) = (vs ++ [l.value], t0, t1)) := by
              show _ = _
              rw [HSTEP.out]
              unfold stepV
              simp only []
              rw [hval, if_neg (by omega), if_neg (by omega)]
            clear hval k1
            go_wp2_with (first | (at_builtin; refine wpList_append_i rfl _ _ rfl w1.heap.size _ _ _ _ _ rfl (by first | rfl | (simp; rfl)) houtq (by omega) (by omega) ?_; intro ao' cap' w9 hown9 hg9))
            have hbe9 := hbelq.grown hg9 (by omega) (fun q hq => by have := houtq.rowLt q hq; omega)
            have hA9 := ints_grown hAq hg9 (by omega) (fun q hq => by have := houtq.rowLt q hq; omega)
            have hB9 := ints_grown hBq hg9 (by omega) (fun q hq => by have := houtq.rowLt q hq; omega)
            go_roundw
            case rel => exact ⟨k + 1, ao', cap', _, _, _, _, _, _, by omega, by go_num, rfl, by rw [HST2.out]; exact hown9, rfl, by omega, by rw [HST2.out]; exact hA9, rfl, by omega, by rw [HST2.out]; exact hB9, hbe9⟩
            case measure => simp [intOf] <;> omega
          · rw [k1] at e0
            obtain ⟨g, u, v, hpv, hwv, hg10, hu, hv, hop, hval⟩ := kind3_val HQ.out HX.out HOK.out k1
            have HST2 : Hid (runV ls a b (k + 1) = (vs ++ [opF l.op g u v], t0, t1)) := by
              show _ = _
              rw [HSTEP.out]
              unfold stepV
              simp only []
              rw [hval, if_neg (by omega), if_neg (by omega)]
            have hlen : l.parts.length = 2 := by have := congrArg List.length hpv; simpa [pvL] using this
            have hbt := HBT.out
            rw [hwv] at hbt
            simp only [List.getLastD_cons, List.getLastD_nil] at hbt
            obtain ⟨gp, rfl, hcs⟩ := ownI_row HVO.out (by omega)
            have d0 := hcs 0 u (by rw [hpv]; rfl)
            have d1 := hcs 1 v (by rw [hpv]; rfl)
            subst hbt
            clear hval k1 hpv hwv hcs
            go_wp2_with fail
            go_quiet ((go_at_call 70; exact quiet_left (laApply_any _ _ _ _ _ hop hg10 hu hv)))
            go_wp2_with (first | (at_builtin; refine wpList_append_i rfl _ _ rfl w1.heap.size _ _ _ _ _ rfl (by first | rfl | (simp; rfl)) (houtD _) (by omega) (by rw [hzD]; omega) ?_; intro ao' cap' w9 hown9 hg9))
            have hbe9 := (hbelD _).grown hg9 (by rw [hzD]; omega) (fun q hq => by have := houtq.rowLt q hq; omega)
            have hA9 := ints_grown (hAD _) hg9 (by rw [hzD]; omega) (fun q hq => by have := houtq.rowLt q hq; omega)
            have hB9 := ints_grown (hBD _) hg9 (by rw [hzD]; omega) (fun q hq => by have := houtq.rowLt q hq; omega)
            go_roundw
            case rel => exact ⟨k + 1, ao', cap', _, _, _, _, _, _, by omega, by go_num, rfl, by rw [HST2.out]; exact hown9, rfl, by omega, by rw [HST2.out]; exact hA9, rfl, by omega, by rw [HST2.out]; exact hB9, hbe9⟩
            case measure => simp [intOf] <;> omega
          · rw [k1] at e0
            obtain ⟨g, u, hpv, hwv, hg10, hu, hval⟩ := kind4_val HQ.out HX.out HOK.out k1
            have HST2 : Hid (runV ls a b (k + 1) = (vs ++ [2 ^ g - 1 - (u : Int)], t0, t1)) := by
              show _ = _
              rw [HSTEP.out]
              unfold stepV
              simp only []
              rw [hval, if_neg (by omega), if_neg (by omega)]
            have hlen : l.parts.length = 1 := by have := congrArg List.length hpv; simpa [pvL] using this
            have hbt := HBT.out
            rw [hwv] at hbt
            simp only [List.getLastD_cons, List.getLastD_nil] at hbt
            obtain ⟨gp, rfl, hcs⟩ := ownI_row HVO.out (by omega)
            have d0 := hcs 0 u (by rw [hpv]; rfl)
            subst hbt
            have HW1 := Lib.hid (wrap_not hg10 hu)
            clear hval k1 hpv hwv hcs hu
            go_wp2_with (first | rw [HW1.out] | (at_builtin; refine wpList_append_i rfl _ _ rfl w1.heap.size _ _ _ _ _ rfl (by first | rfl | (simp; rfl)) houtq (by omega) (by omega) ?_; intro ao' cap' w9 hown9 hg9))
            have hbe9 := hbelq.grown hg9 (by omega) (fun q hq => by have := houtq.rowLt q hq; omega)
            have hA9 := ints_grown hAq hg9 (by omega) (fun q hq => by have := houtq.rowLt q hq; omega)
            have hB9 := ints_grown hBq hg9 (by omega) (fun q hq => by have := houtq.rowLt q hq; omega)
            go_roundw
            case rel => exact ⟨k + 1, ao', cap', _, _, _, _, _, _, by omega, by go_num, rfl, by rw [HST2.out]; exact hown9, rfl, by omega, by rw [HST2.out]; exact hA9, rfl, by omega, by rw [HST2.out]; exact hB9, hbe9⟩
            case measure => simp [intOf] <;> omega
          · rw [k1] at e0
            obtain ⟨u, v, z, hpv, ⟨rfl, hval⟩ | ⟨rfl, hval⟩⟩ := kind5_val HQ.out HX.out HOK.out k1
            · have HST2 : Hid (runV ls a b (k + 1) = (vs ++ [z], t0, t1)) := by
                show _ = _
                rw [HSTEP.out]
                unfold stepV
                simp only []
                rw [hval, if_neg (by omega), if_neg (by omega)]
              have hlen : l.parts.length = 3 := by have := congrArg List.length hpv; simpa [pvL] using this
              obtain ⟨gp, rfl, hcs⟩ := ownI_row HVO.out (by omega)
              have d0 := hcs 0 0 (by rw [hpv]; rfl)
              have d1 := hcs 2 z (by rw [hpv]; rfl)
              clear hval k1 hpv hcs
              go_wp2_with (first | (at_builtin; refine wpList_append_i rfl _ _ rfl w1.heap.size _ _ _ _ _ rfl (by first | rfl | (simp; rfl)) houtq (by omega) (by omega) ?_; intro ao' cap' w9 hown9 hg9))
              have hbe9 := hbelq.grown hg9 (by omega) (fun q hq => by have := houtq.rowLt q hq; omega)
              have hA9 := ints_grown hAq hg9 (by omega) (fun q hq => by have := houtq.rowLt q hq; omega)
              have hB9 := ints_grown hBq hg9 (by omega) (fun q hq => by have := houtq.rowLt q hq; omega)
              go_roundw
              case rel => exact ⟨k + 1, ao', cap', _, _, _, _, _, _, by omega, by go_num, rfl, by rw [HST2.out]; exact hown9, rfl, by omega, by rw [HST2.out]; exact hA9, rfl, by omega, by rw [HST2.out]; exact hB9, hbe9⟩
              case measure => simp [intOf] <;> omega
            · have HST2 : Hid (runV ls a b (k + 1) = (vs ++ [v], t0, t1)) := by
                show _ = _
                rw [HSTEP.out]
                unfold stepV
                simp only []
                rw [hval, if_neg (by omega), if_neg (by omega)]
              have hlen : l.parts.length = 3 := by have := congrArg List.length hpv; simpa [pvL] using this
              obtain ⟨gp, rfl, hcs⟩ := ownI_row HVO.out (by omega)
              have d0 := hcs 0 1 (by rw [hpv]; rfl)
              have d1 := hcs 1 v (by rw [hpv]; rfl)
              clear hval k1 hpv hcs
              go_wp2_with (first | (at_builtin; refine wpList_append_i rfl _ _ rfl w1.heap.size _ _ _ _ _ rfl (by first | rfl | (simp; rfl)) houtq (by omega) (by omega) ?_; intro ao' cap' w9 hown9 hg9))
              have hbe9 := hbelq.grown hg9 (by omega) (fun q hq => by have := houtq.rowLt q hq; omega)
              have hA9 := ints_grown hAq hg9 (by omega) (fun q hq => by have := houtq.rowLt q hq; omega)
              have hB9 := ints_grown hBq hg9 (by omega) (fun q hq => by have := houtq.rowLt q hq; omega)
              go_roundw
              case rel => exact ⟨k + 1, ao', cap', _, _, _, _, _, _, by omega, by go_num, rfl, by rw [HST2.out]; exact hown9, rfl, by omega, by rw [HST2.out]; exact hA9, rfl, by omega, by rw [HST2.out]; exact hB9, hbe9⟩
              case measure => simp [intOf] <;> omega
          · rw [k1] at e0
            obtain ⟨u, hpv, hval⟩ := kind6_val HQ.out HX.out HOK.out k1
            have HST2 : Hid (runV ls a b (k + 1) = (vs ++ [u], t0, t1)) := by
              show _ = _
              rw [HSTEP.out]
              unfold stepV
              simp only []
              rw [hval, if_neg (by omega), if_neg (by omega)]
            have hlen : l.parts.length = 1 := by have := congrArg List.length hpv; simpa [pvL] using this
            obtain ⟨gp, rfl, hcs⟩ := ownI_row HVO.out (by omega)
            have d0 := hcs 0 u (by rw [hpv]; rfl)
            clear hval k1 hpv hcs
            go_wp2_with (first | (at_builtin; refine wpList_append_i rfl _ _ rfl w1.heap.size _ _ _ _ _ rfl (by first | rfl | (simp; rfl)) houtq (by omega) (by omega) ?_; intro ao' cap' w9 hown9 hg9))
            have hbe9 := hbelq.grown hg9 (by omega) (fun q hq => by have := houtq.rowLt q hq; omega)
            have hA9 := ints_grown hAq hg9 (by omega) (fun q hq => by have := houtq.rowLt q hq; omega)
            have hB9 := ints_grown hBq hg9 (by omega) (fun q hq => by have := houtq.rowLt q hq; omega)
            go_roundw
            case rel => exact ⟨k + 1, ao', cap', _, _, _, _, _, _, by omega, by go_num, rfl, by rw [HST2.out]; exact hown9, rfl, by omega, by rw [HST2.out]; exact hA9, rfl, by omega, by rw [HST2.out]; exact hB9, hbe9⟩
            case measure => simp [intOf] <;> omega
    · obtain rfl : k = n1 := by omega
      have HV : (runV ls a b k).1 = valsL ls a b := by unfold valsL; rw [hl.out]
      rw [HV] at hout
      clear HV
      go_wp2_with fail
      go_ret
      exact ⟨_, _, _, rfl, hout.up hb1.size, hbelw⟩
end Go.Proofs.YtdlddkgmjpmenaaGreatDoor
