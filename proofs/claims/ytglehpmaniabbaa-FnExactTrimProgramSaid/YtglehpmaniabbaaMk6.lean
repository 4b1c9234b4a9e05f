/-
  The language: a program that a call has handed back is written over, and read again.
-/
import Derived.Test.YtglehpmaniabbaaMk5
namespace Go.Proofs.Ytglehpmaniabbaa
open Go.RowKit
set_option linter.unusedVariables false
set_option linter.unusedSimpArgs false

set_option maxHeartbeats 2000000 in
theorem markStringS_g (w : World) (B C D : Nat) (ao : Option Addr) (n cap : Nat) (q : Nat) (ss : List ByteArray) (ho : OwnSt B w ao n cap ss) (hq : q ≤ 1000000000) (hn20 : n ≤ 1048576) (hrw : ∀ p, rowOf ao cap = some p → C ≤ p ∧ p < D) :
    Calls Try.prog 44 #[.slice ao n cap, .int .i64 q] w fun e w' => e = .returned (.int .i64 ((q + n : Nat) : Int)) ∧ OwnSt B w' ao n cap (marksT q n) ∧ Kept C D w w' := by
  have hn := ho.le
  rcases Nat.eq_zero_or_pos n with rfl | hp
  · have hx : ss = [] := List.eq_nil_of_length_eq_zero ho.1
    subst hx
    go_enter Try.func44, Try.ntmps44
    go_wp2
    refine wp_loop_rounds 1 ?_
    rw [rounds_succ]
    go_wp2
    go_ret
    exact ⟨rfl, ho, Kept.refl _ _ _⟩
  obtain ⟨g, rfl, hBg, hgl, hrow⟩ := ho.2.2.some hp
  obtain ⟨hCg, hgD⟩ := hrw g (by
    have hcap : cap ≠ 0 := by
      rcases hrow.2 with ⟨hv, _⟩ | ⟨b', cap1, cur1, hv, _, hb, hn', _⟩
      · cases hv
      · simp only [Value.slice.injEq] at hv
        obtain ⟨_, _, rfl⟩ := hv
        omega
    simp [rowOf, hcap])
  clear hrw
  have hlen := Lib.hid ho.1
  go_enter Try.func44, Try.ntmps44
  go_wp2
  go_loopw [1, 5] (fun qv i wr => ∃ (k : Nat) (cs : List Value), k ≤ n ∧ i = .int .i64 k ∧ qv = .int .i64 ((q + k : Nat) : Int) ∧ cs.length = n ∧ wr.ownsRow B 9 1 (.slice (some ⟨g, 0, none⟩) n cap) n ((marksT q k).map Value.string ++ cs.drop k) ∧ Kept C D w wr) (fun _ i _ => n - (intOf i).toNat)
  case atStart => exact ⟨0, ss.map Value.string, Nat.zero_le _, rfl, rfl, by simp [hlen.out], by simpa [marksT] using hrow, Kept.refl _ _ _⟩
  case round =>
    obtain ⟨k, cs, hk, rfl, rfl, hcl, hr, hke⟩ := hrel
    by_cases hlt : k < n
    · have HR := Lib.hid hr
      have HCL := Lib.hid hcl
      have hgw : g < wr.heap.size := Nat.lt_of_lt_of_le hgl hke.size
      clear hr hcl
      go_wp2_with fail
      refine (markText_any _ _ (by omega)).mono ?_
      rintro e w2 ⟨rfl, hb2⟩
      have hr2 := ownsRow_below HR.out hb2 (Nat.le_refl _)
      obtain ⟨u, hu⟩ : ∃ u, w2.cell? ⟨g, k, none⟩ = some u := by
        rw [World.ownsRow.cellAt hr2 k (by omega)]
        refine ⟨_, List.getElem?_eq_getElem (by rw [hr2.1]; omega)⟩
      have hf := World.ownsRow.frozenAt hr2 k
      have hst := (World.ownsRow.stored hr2 k (.string (markT (q + k)))).1
      have hL : ((marksT q k).map Value.string ++ cs.drop k).set k (.string (markT (q + k))) = (marksT q (k + 1)).map Value.string ++ cs.drop (k + 1) := by
        have e1 : ((marksT q k).map Value.string).length = k := by rw [List.length_map, marksT_length]
        rw [List.set_append_right _ _ (by omega), e1, Nat.sub_self, List.drop_eq_getElem_cons (by rw [HCL.out]; exact hlt), List.set_cons_zero]
        have e2 : marksT q (k + 1) = marksT q k ++ [markT (q + k)] := by
          apply List.ext_getElem?
          intro i
          by_cases hi : i < k
          · rw [marksT_get _ _ _ (by omega), List.getElem?_append_left (by rw [marksT_length]; exact hi), marksT_get _ _ _ hi]
          · by_cases hi2 : i = k
            · subst hi2
              rw [marksT_get _ _ _ (by omega), List.getElem?_append_right (by rw [marksT_length]; omega), marksT_length]; simp
            · rw [List.getElem?_eq_none (by rw [marksT_length]; omega), List.getElem?_eq_none (by rw [List.length_append, marksT_length]; simp; omega)]
        rw [e2, List.map_append, List.append_assoc]; rfl
      rw [hL] at hst
      have HST := Lib.hid hst
      have hke3 := (hke.trans (Kept.of_below (C := C) (D := D) hb2 (Nat.le_refl _))).set ⟨g, k, none⟩ (.string (markT (q + k))) hCg hgD
      clear hst hL hr2
      go_wp2_with fail
      go_roundw
      case rel => exact ⟨k + 1, cs, by omega, by go_num, by go_num, HCL.out, HST.out, hke3⟩
      case measure => simp [intOf] <;> omega
    · obtain rfl : k = n := by omega
      rw [List.drop_of_length_le (by omega), List.append_nil] at hr
      have HR := Lib.hid hr
      clear hr
      go_wp2_with fail
      go_ret
      exact ⟨rfl, ⟨marksT_length _ _, hn, .inr ⟨g, rfl, HR.out⟩⟩, hke⟩
section
variable {B C D n cap g k : Nat} {w w' : World} {hs : List (Option Addr × Nat)} {ms : List Ln} {l1 l2 : Ln} {x : Option Addr × Nat}
theorem TT.lt (h : TT B w (some ⟨g, 0, none⟩) n cap hs (ms.set k l1)) (hk : k < n) : (ms.set k l1)[k]? = some l1 := by
  have := h.len
  rw [List.length_set] at this
  rw [List.getElem?_set_self (by omega)]
theorem TT.cellAt (h : TT B w (some ⟨g, 0, none⟩) n cap hs (ms.set k l1)) (hk : k < n) (hx : hs[k]? = some x) {j : Nat} {v : Value} (hv : (lineCells l1 x)[j]? = some v) : w.cell? ⟨g, k * 7 + j, none⟩ = some v := by
  obtain ⟨g', x', hg, hx', h1, h2, h3, h4, h5⟩ := h.at (h.lt hk)
  simp only [Option.some.injEq, Addr.mk.injEq] at hg
  obtain ⟨rfl, _⟩ := hg
  rw [hx] at hx'
  simp only [Option.some.injEq] at hx'
  subst hx'
  exact h4 j v hv
theorem TT.free (h : TT B w (some ⟨g, 0, none⟩) n cap hs (ms.set k l1)) (hk : k < n) (j : Nat) : w.frozen? ⟨g, j, none⟩ = false := by
  obtain ⟨g', x', hg, hx', h1, h2, h3, h4, h5⟩ := h.at (h.lt hk)
  simp only [Option.some.injEq, Addr.mk.injEq] at hg
  obtain ⟨rfl, _⟩ := hg
  exact h5 j
theorem TT.put (h : TT B w (some ⟨g, 0, none⟩) n cap hs (ms.set k l1)) (hk : k < n) (j : Nat) (hj : j < 7) (l2 : Ln) (v : Value) (hc : ∀ x, lineCells l2 x = (lineCells l1 x).set j v) (hp : l2.parts = l1.parts) :
    TT B (w.setCell ⟨g, k * 7 + j, none⟩ v) (some ⟨g, 0, none⟩) n cap hs (ms.set k l2) := by
  have := h.set (h.lt hk) j hj l2 v hc hp
  rwa [List.set_set] at this
theorem TT.window (h : TT B w (some ⟨g, 0, none⟩) n cap hs (ms.set k l1)) (hk : k < n) (hx : hs[k]? = some x) (hB : B ≤ w.heap.size) : ∃ C D, (∀ p, rowOf x.1 x.2 = some p → C ≤ p ∧ p < D) ∧ (∀ q, rowOf x.1 x.2 ≠ some q → q < C ∨ D ≤ q) ∧ B ≤ C ∧ C ≤ w.heap.size := by
  have ho := h.parts k l1 x (h.lt hk) hx
  cases hr : rowOf x.1 x.2 with
  | none => exact ⟨B, B, (fun p hp => by cases hp), (fun q _ => by omega), Nat.le_refl _, hB⟩
  | some p =>
    have := ho.rowLt p hr
    exact ⟨p, p + 1, (fun q hq => by simp only [Option.some.injEq] at hq; omega), (fun q hq => by simp only [ne_eq, Option.some.injEq] at hq; omega), this.1, by omega⟩
theorem TT.putParts (h : TT B w (some ⟨g, 0, none⟩) n cap hs (ms.set k l1)) (hk : k < n) (hx : hs[k]? = some x) (hke : Kept C D w w') (hout : ∀ q, rowOf x.1 x.2 ≠ some q → q < C ∨ D ≤ q)
    (l2 : Ln) (ho : OwnSt B w' x.1 l2.parts.length x.2 l2.parts) (hc : ∀ y, lineCells l2 y = lineCells l1 y) : TT B w' (some ⟨g, 0, none⟩) n cap hs (ms.set k l2) := by
  have hl := h.lt hk
  have hpx := h.parts k l1 x hl hx
  have hlen := h.len
  rw [List.length_set] at hlen
  have e : linesCells (ms.set k l2) hs = linesCells (ms.set k l1) hs := by
    rw [← linesCells_parts (ms.set k l1) hs k l1 l2 hl hc, List.set_set]
  refine ⟨by rw [List.length_set]; exact hlen, h.le, h.hlen, ?_, fun i y z a b => ?_, h.apart⟩
  · rw [e]
    exact hke.own h.row (fun b hb => hout b fun hb' => ownC_apart hpx.2.2 h.row (by decide) b b hb' hb rfl)
  · by_cases hik : k = i
    · subst hik
      rw [List.getElem?_set_self (by omega)] at a
      simp only [Option.some.injEq] at a
      subst a
      rw [hx] at b
      simp only [Option.some.injEq] at b
      subst b
      exact ho
    · rw [List.getElem?_set_ne hik] at a
      have a' : (ms.set k l1)[i]? = some y := by rw [List.getElem?_set_ne hik]; exact a
      exact hke.ownSt (h.parts i y z a' b) (fun p hp => hout p fun hp' => h.apart k i x z hx b hik p hp' hp)
end
theorem List.set_getElem?_self' {α : Type} {xs : List α} {k : Nat} {x : α} (h : xs[k]? = some x) : xs.set k x = xs := by
  apply List.ext_getElem?
  intro i
  by_cases hi : k = i
  · subst hi
    rw [List.getElem?_set_self (List.getElem?_eq_some_iff.1 h).1, h]
  · rw [List.getElem?_set_ne hi]
theorem wname' {B : Nat} {w w' : World} (h : Below B w w') : ∃ W, W = w' := ⟨_, rfl⟩
set_option maxRecDepth 100000 in
set_option maxHeartbeats 8000000 in
theorem markLineS_t (w : World) (B : Nat) (ao : Option Addr) (n cap : Nat) (hs : List (Option Addr × Nat)) (ls : List Ln) (h : TT B w ao n cap hs ls) (hB : B ≤ w.heap.size) (hok : okS ls) (hsum : n + partsSum ls ≤ 1048576) :
    Calls Try.prog 12 #[.slice ao n cap, .int .i64 1] w fun e w' => e = .returned (.int .i64 ((1 + 6 * n + partsSum ls : Nat) : Int)) ∧ TT B w' ao n cap hs (markL 1 ls) ∧ Below B w w' := by
  have HT := Lib.hid h
  have HOK := Lib.hid hok
  have HN := Lib.hid h.len
  have hn20 : n ≤ 1048576 := by omega
  have HSUM := Lib.hid hsum
  clear h hok hsum
  go_enter Try.func12, Try.ntmps12
  go_wp2_with fail
  go_loopw [1, 5] (fun qv i wr => ∃ (k Q : Nat), k ≤ n ∧ i = .int .i64 k ∧ qv = .int .i64 Q ∧ Hid (Q = 1 + 6 * k + partsSum (ls.take k)) ∧ TT B wr ao n cap hs ((markL 1 ls).take k ++ ls.drop k) ∧ Below B w wr) (fun _ i _ => n - (intOf i).toNat)
  case atStart => exact ⟨0, 1, Nat.zero_le _, rfl, rfl, by show _ = _; simp [partsSum], by simpa using HT.out, Below.refl _ _⟩
  case round =>
    obtain ⟨k, Q, hk, rfl, rfl, HQ, htt, hbel⟩ := hrel
    obtain ⟨wr, hwr⟩ := wname' hbel
    subst hwr
    by_cases hlt : k < n
    · obtain ⟨l, hl⟩ := getL_at (i := k) HN.out hlt
      have hpl := (okS_at HOK.out hl).2.2
      have HST := Lib.hid (partsSum_step hl)
      have HMG := Lib.hid (markL_get ls 1 k l hl)
      have hQb : Q ≤ 10000000 := by have := HSUM.out; have := partsSum_le ls k; have := HQ.out; omega
      have hms : ((markL 1 ls).take k ++ ls.drop k)[k]? = some l := by
        rw [List.getElem?_append_right (by rw [List.length_take]; omega), List.length_take, markL_length, HN.out, Nat.min_eq_left hk, Nat.sub_self, List.getElem?_drop, Nat.add_zero, hl]
      obtain ⟨ms, hmse⟩ : ∃ ms, ms = (markL 1 ls).take k ++ ls.drop k := ⟨_, rfl⟩
      rw [← hmse] at htt hms
      have HMS := Lib.hid hmse
      have h0 : TT B wr ao n cap hs (ms.set k l) := by rw [show ms.set k l = ms from List.set_getElem?_self' hms]; exact htt
      obtain ⟨g, x, rfl, hx, hBg, _, _, _, _⟩ := htt.at hms
      have HX := Lib.hid hx
      have HTT := Lib.hid h0
      clear h0 htt hmse hms hl hx
      have a0 := HTT.out.cellAt hlt HX.out (j := 0) rfl
      have f0 := HTT.out.free hlt (k * 7 + 0)
      rw [Nat.add_zero] at a0 f0
      obtain ⟨W1, hW1⟩ : ∃ W1, W1 = wr.setCell ⟨g, k * 7, none⟩ (.int .i64 Q) := ⟨_, rfl⟩
      have htW1 : TT B W1 (some ⟨g, 0, none⟩) n cap hs (ms.set k ⟨(Q : Int), l.name, l.op, l.parts, l.party, l.width, l.value⟩) := by rw [hW1]; exact HTT.out.put hlt 0 (by decide) ⟨(Q : Int), l.name, l.op, l.parts, l.party, l.width, l.value⟩ _ (fun _ => rfl) rfl
      have hbeW1 : Below B w W1 := by rw [hW1]; exact below_set hbel _ _ hBg
      have hzW1 : B ≤ W1.heap.size := Nat.le_trans hB hbeW1.size
      have HW1 := Lib.hid hW1
      clear hbel HTT hW1
      have hbel := hbeW1
      have HTT := Lib.hid htW1
      clear hbeW1 htW1
      go_wp2_with (rw [← HW1.out])
      have e1 : (Q : Int) + 1 = ((Q + 1 : Nat) : Int) := by omega
      rw [e1]
      clear a0 f0 e1
      refine (markText_any _ _ (by omega)).mono ?_
      rintro e w2 ⟨rfl, hbw2⟩
      have hbel' := hbel.trans (hbw2.mono (Nat.le_trans hB hbel.size))
      have ht' := HTT.out.below hbw2 (Nat.le_refl _)
      clear hbel HTT
      have hbel := hbel'
      have HTT := Lib.hid ht'
      clear hbel' ht'
      have a1 := HTT.out.cellAt hlt HX.out (j := 1) rfl
      have f1 := HTT.out.free hlt (k * 7 + 1)
      obtain ⟨W3, hW3⟩ : ∃ W3, W3 = w2.setCell ⟨g, k * 7 + 1, none⟩ (.string (markT (Q + 1))) := ⟨_, rfl⟩
      have htW3 : TT B W3 (some ⟨g, 0, none⟩) n cap hs (ms.set k ⟨(Q : Int), markT (Q + 1), l.op, l.parts, l.party, l.width, l.value⟩) := by rw [hW3]; exact HTT.out.put hlt 1 (by decide) ⟨(Q : Int), markT (Q + 1), l.op, l.parts, l.party, l.width, l.value⟩ _ (fun _ => rfl) rfl
      have hbeW3 : Below B w W3 := by rw [hW3]; exact below_set hbel _ _ hBg
      have hzW3 : B ≤ W3.heap.size := Nat.le_trans hB hbeW3.size
      have HW3 := Lib.hid hW3
      clear hbel HTT hW3
      have hbel := hbeW3
      have HTT := Lib.hid htW3
      clear hbeW3 htW3
      go_wp2_with (rw [← HW3.out])
      have e1 : (Q : Int) + 1 + 1 = ((Q + 2 : Nat) : Int) := by omega
      rw [e1]
      clear a1 f1 e1
      refine (markText_any _ _ (by omega)).mono ?_
      rintro e w4 ⟨rfl, hbw4⟩
      have hbel' := hbel.trans (hbw4.mono (Nat.le_trans hB hbel.size))
      have ht' := HTT.out.below hbw4 (Nat.le_refl _)
      clear hbel HTT
      have hbel := hbel'
      have HTT := Lib.hid ht'
      clear hbel' ht'
      have a2 := HTT.out.cellAt hlt HX.out (j := 2) rfl
      have f2 := HTT.out.free hlt (k * 7 + 2)
      obtain ⟨W5, hW5⟩ : ∃ W5, W5 = w4.setCell ⟨g, k * 7 + 2, none⟩ (.string (markT (Q + 2))) := ⟨_, rfl⟩
      have htW5 : TT B W5 (some ⟨g, 0, none⟩) n cap hs (ms.set k ⟨(Q : Int), markT (Q + 1), markT (Q + 2), l.parts, l.party, l.width, l.value⟩) := by rw [hW5]; exact HTT.out.put hlt 2 (by decide) ⟨(Q : Int), markT (Q + 1), markT (Q + 2), l.parts, l.party, l.width, l.value⟩ _ (fun _ => rfl) rfl
      have hbeW5 : Below B w W5 := by rw [hW5]; exact below_set hbel _ _ hBg
      have hzW5 : B ≤ W5.heap.size := Nat.le_trans hB hbeW5.size
      have HW5 := Lib.hid hW5
      clear hbel HTT hW5
      have hbel := hbeW5
      have HTT := Lib.hid htW5
      clear hbeW5 htW5
      have a3 := HTT.out.cellAt hlt HX.out (j := 3) rfl
      go_wp2_with (rw [← HW5.out])
      have e1 : (Q : Int) + 2 + 1 = ((Q + 3 : Nat) : Int) := by omega
      rw [e1]
      clear a2 f2 a3 e1
      obtain ⟨C, D, hin, hout, hBC, hCs⟩ := HTT.out.window hlt HX.out hzW5
      have hpo := HTT.out.parts k _ x (HTT.out.lt hlt) HX.out
      refine (markStringS_g W5 B C D x.1 _ x.2 (Q + 3) _ hpo (by omega) hpl hin).mono ?_
      rintro e w6 ⟨rfl, hos6, hke6⟩
      have ht6 : TT B w6 (some ⟨g, 0, none⟩) n cap hs (ms.set k ⟨(Q : Int), markT (Q + 1), markT (Q + 2), marksT (Q + 3) l.parts.length, l.party, l.width, l.value⟩) := HTT.out.putParts hlt HX.out hke6 hout ⟨(Q : Int), markT (Q + 1), markT (Q + 2), marksT (Q + 3) l.parts.length, l.party, l.width, l.value⟩ (by rw [marksT_length]; exact hos6) (fun _ => by simp only [lineCells, marksT_length])
      have hbel6 := hbel.trans ((hke6.below hCs).mono hBC)
      clear hbel HTT hpo hin hout hos6
      have hbel := hbel6
      have HTT := Lib.hid ht6
      clear hbel6 ht6
      obtain ⟨R, hR⟩ : ∃ R, R = Q + 3 + l.parts.length := ⟨_, rfl⟩
      rw [← hR]
      have hRb : R ≤ 20000000 := by omega
      have HR := Lib.hid hR
      clear hR
      have a4 := HTT.out.cellAt hlt HX.out (j := 4) rfl
      have f4 := HTT.out.free hlt (k * 7 + 4)
      obtain ⟨W7, hW7⟩ : ∃ W7, W7 = w6.setCell ⟨g, k * 7 + 4, none⟩ (.int .i64 R) := ⟨_, rfl⟩
      have htW7 : TT B W7 (some ⟨g, 0, none⟩) n cap hs (ms.set k ⟨(Q : Int), markT (Q + 1), markT (Q + 2), marksT (Q + 3) l.parts.length, (R : Int), l.width, l.value⟩) := by rw [hW7]; exact HTT.out.put hlt 4 (by decide) ⟨(Q : Int), markT (Q + 1), markT (Q + 2), marksT (Q + 3) l.parts.length, (R : Int), l.width, l.value⟩ _ (fun _ => rfl) rfl
      have hbeW7 : Below B w W7 := by rw [hW7]; exact below_set hbel _ _ hBg
      have hzW7 : B ≤ W7.heap.size := Nat.le_trans hB hbeW7.size
      have HW7 := Lib.hid hW7
      clear hbel HTT hW7
      have hbel := hbeW7
      have HTT := Lib.hid htW7
      clear hbeW7 htW7
      have a5 := HTT.out.cellAt hlt HX.out (j := 5) rfl
      have f5 := HTT.out.free hlt (k * 7 + 5)
      obtain ⟨W8, hW8⟩ : ∃ W8, W8 = W7.setCell ⟨g, k * 7 + 5, none⟩ (.int .i64 (R + 1)) := ⟨_, rfl⟩
      have htW8 : TT B W8 (some ⟨g, 0, none⟩) n cap hs (ms.set k ⟨(Q : Int), markT (Q + 1), markT (Q + 2), marksT (Q + 3) l.parts.length, (R : Int), (R : Int) + 1, l.value⟩) := by rw [hW8]; exact HTT.out.put hlt 5 (by decide) ⟨(Q : Int), markT (Q + 1), markT (Q + 2), marksT (Q + 3) l.parts.length, (R : Int), (R : Int) + 1, l.value⟩ _ (fun _ => rfl) rfl
      have hbeW8 : Below B w W8 := by rw [hW8]; exact below_set hbel _ _ hBg
      have hzW8 : B ≤ W8.heap.size := Nat.le_trans hB hbeW8.size
      have HW8 := Lib.hid hW8
      clear hbel HTT hW8
      have hbel := hbeW8
      have HTT := Lib.hid htW8
      clear hbeW8 htW8
      have a6 := HTT.out.cellAt hlt HX.out (j := 6) rfl
      have f6 := HTT.out.free hlt (k * 7 + 6)
      obtain ⟨W9, hW9⟩ : ∃ W9, W9 = W8.setCell ⟨g, k * 7 + 6, none⟩ (.int .i64 ((R : Int) + 1 + 1)) := ⟨_, rfl⟩
      have htW9 : TT B W9 (some ⟨g, 0, none⟩) n cap hs (ms.set k ⟨(Q : Int), markT (Q + 1), markT (Q + 2), marksT (Q + 3) l.parts.length, (R : Int), (R : Int) + 1, (R : Int) + 1 + 1⟩) := by rw [hW9]; exact HTT.out.put hlt 6 (by decide) ⟨(Q : Int), markT (Q + 1), markT (Q + 2), marksT (Q + 3) l.parts.length, (R : Int), (R : Int) + 1, (R : Int) + 1 + 1⟩ _ (fun _ => rfl) rfl
      have hbeW9 : Below B w W9 := by rw [hW9]; exact below_set hbel _ _ hBg
      have hzW9 : B ≤ W9.heap.size := Nat.le_trans hB hbeW9.size
      have HW9 := Lib.hid hW9
      clear hbel HTT hW9
      have hbel := hbeW9
      have HTT := Lib.hid htW9
      clear hbeW9 htW9
      have hW9' : W8.setCell ⟨g, k * 7 + 6, none⟩ (.int .i64 ((R : Int) + 2)) = W9 := by rw [HW9.out, show (R : Int) + 1 + 1 = R + 2 from by omega]
      have HW9' := Lib.hid hW9'
      clear hW9'
      go_wp2_with (first | rw [← HW7.out] | rw [← HW8.out] | rw [← HW9.out] | rw [HW9'.out])
      go_roundw
      case rel =>
        have hQ := HQ.out
        have hR := HR.out
        have e1 : ⟨(Q : Int), markT (Q + 1), markT (Q + 2), marksT (Q + 3) l.parts.length, (R : Int), (R : Int) + 1, (R : Int) + 1 + 1⟩ = markLn Q l := by unfold markLn; rw [hR]; simp only [Ln.mk.injEq, true_and]; exact ⟨by omega, by omega⟩
        have e2 : ms.set k (markLn Q l) = (markL 1 ls).take (k + 1) ++ ls.drop (k + 1) := by rw [HMS.out, take_set (by rw [markL_length]) (by rw [HMG.out, hQ])]
        have h9 := HTT.out
        rw [e1, e2] at h9
        exact ⟨k + 1, R + 3, by omega, by go_num, by go_num, by show _ = _; rw [HST.out]; omega, h9, hbel⟩
      case measure => simp [intOf] <;> omega
    · obtain rfl : k = n := by omega
      rw [List.take_of_length_le (by rw [markL_length, HN.out]; exact Nat.le_refl _), List.drop_of_length_le (by rw [HN.out]; exact Nat.le_refl _), List.append_nil] at htt
      have HTT := Lib.hid htt
      rw [List.take_of_length_le (by rw [HN.out]; exact Nat.le_refl _)] at HQ
      clear htt
      go_wp2_with fail
      go_ret
      exact ⟨ret_int (by rw [← HQ.out]), HTT.out, hbel⟩
end Go.Proofs.Ytglehpmaniabbaa
