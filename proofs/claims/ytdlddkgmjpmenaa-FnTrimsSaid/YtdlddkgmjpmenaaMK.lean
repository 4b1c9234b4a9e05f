/-
  Plain laws of trimming: a trimmed program is one, is trimmed already, and has the same inputs and results.
-/
import Derived.Test.YtdlddkgmjpmenaaMP
import Derived.Test.YtdlddkgmjpmenaaMJ
namespace Go.Proofs.Ytdlddkgmjpmenaa
open Go.RowKit
set_option linter.unusedVariables false
set_option linter.unusedSimpArgs false

/-! ### What is needed -/
theorem markP_keeps (ls : List Ln) : ∀ (ps : List ByteArray) (bs : List Bool) (j : Nat), bs.getD j false = true → (markP ls bs ps).getD j false = true
  | [], bs, j, h => h
  | p :: r, bs, j, h => by
    refine markP_keeps ls r _ j ?_
    simp only [List.getD_eq_getElem?_getD, List.getElem?_set] at h ⊢
    split
    · rename_i e
      subst e
      split
      · rfl
      · rename_i hlt
        rw [List.getElem?_eq_none (by omega)] at h
        simp at h
    · exact h
theorem markP_sets (ls : List Ln) : ∀ (ps : List ByteArray) (bs : List Bool) (p : ByteArray), p ∈ ps → (findF ls p).toNat < bs.length → (markP ls bs ps).getD (findF ls p).toNat false = true
  | [], bs, p, h, _ => by simp at h
  | q :: r, bs, p, h, hlt => by
    rcases List.mem_cons.1 h with e | e
    · subst e
      refine markP_keeps ls r _ _ ?_
      simp [List.getD_eq_getElem?_getD, List.getElem?_set, hlt]
    · exact markP_sets ls r _ p e (by rw [List.length_set]; exact hlt)
theorem markP_only (ls : List Ln) : ∀ (ps : List ByteArray) (bs : List Bool) (j : Nat), (markP ls bs ps).getD j false = true → bs.getD j false = true ∨ ∃ p ∈ ps, (findF ls p).toNat = j
  | [], bs, j, h => .inl h
  | q :: r, bs, j, h => by
    rcases markP_only ls r _ j h with h1 | ⟨p, hp, e⟩
    · by_cases e : (findF ls q).toNat = j
      · exact .inr ⟨q, by simp, e⟩
      · left
        simp only [List.getD_eq_getElem?_getD, List.getElem?_set, e, if_false] at h1 ⊢
        exact h1
    · exact .inr ⟨p, List.mem_cons_of_mem _ hp, e⟩
theorem nd_mono (ls : List Ln) (j : Nat) : ∀ (t d : Nat), (ndL ls t).getD j false = true → (ndL ls (t + d)).getD j false = true
  | t, 0, h => h
  | t, d + 1, h => by
    have ih := nd_mono ls j t d h
    show (stepN ls (ndL ls (t + d)) (ls.length - 1 - (t + d))).getD j false = true
    unfold stepN
    split
    · exact ih
    · split
      · exact markP_keeps ls _ _ _ ih
      · exact ih
theorem nd_stable {ls : List Ln} (hg : laGoodF ls = true) {k : Nat} : ∀ d t : Nat, ls.length - 1 - t ≤ k → (ndL ls (t + d)).getD k false = (ndL ls t).getD k false
  | 0, t, _ => rfl
  | d + 1, t, h => by
    rw [← nd_stable hg d t h]
    cases hb : (ndL ls (t + d)).getD k false
    · cases hc : (ndL ls (t + (d + 1))).getD k false
      · rfl
      · exfalso
        have hc' : (stepN ls (ndL ls (t + d)) (ls.length - 1 - (t + d))).getD k false = true := hc
        unfold stepN at hc'
        split at hc'
        · rw [hb] at hc'; cases hc'
        · rename_i x hx
          split at hc'
          · rcases markP_only ls _ _ _ hc' with h1 | ⟨p, hp, e⟩
            · rw [hb] at h1; cases h1
            · obtain ⟨_, h0, h2⟩ := good_find hg hx hp
              omega
          · rw [hb] at hc'; cases hc'
    · exact nd_mono ls k (t + d) 1 hb
def ndF (ls : List Ln) (k : Nat) : Bool := (ndL ls ls.length).getD k false
/-- Parts of what is needed are needed. -/
theorem nd_closed {ls : List Ln} (hg : laGoodF ls = true) {k : Nat} {x : Ln} (h : ls[k]? = some x) (hn : isOut x = true ∨ ndF ls k = true) {p : ByteArray} (hp : p ∈ x.parts) : ndF ls (findF ls p).toNat = true := by
  have hk : k < ls.length := (List.getElem?_eq_some_iff.1 h).1
  obtain ⟨_, h0, h2⟩ := good_find hg h hp
  have e : ls.length - 1 - (ls.length - 1 - k) = k := by omega
  have hst : (ndL ls (ls.length - 1 - k + 1)).getD (findF ls p).toNat false = true := by
    show (stepN ls (ndL ls (ls.length - 1 - k)) (ls.length - 1 - (ls.length - 1 - k))).getD (findF ls p).toNat false = true
    rw [e]
    unfold stepN
    rw [h]
    have hc : (isOut x || (ndL ls (ls.length - 1 - k)).getD k false) = true := by
      rcases hn with hn | hn
      · rw [hn]; rfl
      · have := nd_stable hg (k := k) (k + 1) (ls.length - 1 - k) (by omega)
        rw [show ls.length - 1 - k + (k + 1) = ls.length by omega] at this
        rw [← this]
        unfold ndF at hn
        rw [hn, Bool.or_true]
    dsimp only
    rw [if_pos hc]
    exact markP_sets ls _ _ _ hp (by rw [ndL_length]; omega)
  have := nd_mono ls _ (ls.length - 1 - k + 1) k hst
  rw [show ls.length - 1 - k + 1 + k = ls.length by omega] at this
  exact this
/-- What is needed is a part of something that is needed. -/
theorem nd_cause {ls : List Ln} {j : Nat} : ∀ t, t ≤ ls.length → (ndL ls t).getD j false = true → ∃ (k : Nat) (x : Ln) (p : ByteArray), ls[k]? = some x ∧ (isOut x = true ∨ ndF ls k = true) ∧ p ∈ x.parts ∧ (findF ls p).toNat = j
  | 0, _, h => by
    simp only [ndL, List.getD_eq_getElem?_getD, List.getElem?_replicate] at h
    split at h <;> simp at h
  | t + 1, ht, h => by
    have h' : (stepN ls (ndL ls t) (ls.length - 1 - t)).getD j false = true := h
    unfold stepN at h'
    split at h'
    · exact nd_cause t (by omega) h'
    · rename_i x hx
      split at h'
      · rename_i hc
        rcases markP_only ls _ _ _ h' with h1 | ⟨p, hp, e⟩
        · exact nd_cause t (by omega) h1
        · refine ⟨_, x, p, hx, ?_, hp, e⟩
          rw [Bool.or_eq_true] at hc
          rcases hc with hc | hc
          · exact .inl hc
          · right
            have := nd_mono ls _ t (ls.length - t) hc
            rw [show t + (ls.length - t) = ls.length by omega] at this
            exact this
      · exact nd_cause t (by omega) h'
theorem keepB_eq (ls : List Ln) (k : Nat) (x : Ln) : keepB ls k x = (ndF ls k || isOut x || x.kind == 1) := rfl
/-! ### Places of the lines that are kept -/
theorem trimL_more (ls : List Ln) {i k : Nat} {x : Ln} (h : ls[i]? = some x) (hk : keepB ls i x = true) : ∀ d, i + 1 + d = k → ∃ rest, trimL ls k = trimL ls i ++ x :: rest
  | 0, e => by
    subst e
    exact ⟨[], by show trimL ls (i + 1) = _; rw [trimL_step h, if_pos hk]⟩
  | d + 1, e => by
    subst e
    obtain ⟨rest, hr⟩ := trimL_more ls h hk d rfl
    show ∃ rest, trimL ls (i + 1 + d + 1) = _
    rw [trimL]
    split
    · split
      · exact ⟨rest ++ [_], by rw [hr, List.append_assoc]; rfl⟩
      · exact ⟨rest, hr⟩
    · exact ⟨rest, hr⟩
theorem trimL_split {ls : List Ln} {i k : Nat} {x : Ln} (h : ls[i]? = some x) (hk : keepB ls i x = true) (hik : i < k) : ∃ rest, trimL ls k = trimL ls i ++ x :: rest := trimL_more ls h hk (k - i - 1) (by omega)
theorem trimL_at {ls : List Ln} {i k : Nat} {x : Ln} (h : ls[i]? = some x) (hk : keepB ls i x = true) (hik : i < k) : (trimL ls k)[(trimL ls i).length]? = some x := by
  obtain ⟨rest, e⟩ := trimL_split h hk hik
  rw [e, List.getElem?_append_right (Nat.le_refl _), Nat.sub_self]; rfl
/-- Whatever stands in the trimmed list stood in the list. -/
theorem trimL_from (ls : List Ln) : ∀ (k j : Nat) (y : Ln), (trimL ls k)[j]? = some y → ∃ i, i < k ∧ ls[i]? = some y ∧ keepB ls i y = true ∧ (trimL ls i).length = j
  | 0, j, y, h => by simp [trimL] at h
  | k + 1, j, y, h => by
    rw [trimL] at h
    split at h
    · rename_i x hx
      split at h
      · rename_i hkx
        by_cases hj : j < (trimL ls k).length
        · rw [List.getElem?_append_left hj] at h
          obtain ⟨i, h1, h2⟩ := trimL_from ls k j y h
          exact ⟨i, by omega, h2⟩
        · rw [List.getElem?_append_right (by omega)] at h
          have hj2 : j - (trimL ls k).length = 0 := by
            rcases Nat.eq_zero_or_pos (j - (trimL ls k).length) with h0 | h0
            · exact h0
            · rw [List.getElem?_eq_none (by simp; omega)] at h; cases h
          rw [hj2] at h
          simp at h
          subst h
          exact ⟨k, by omega, hx, hkx, by omega⟩
      · obtain ⟨i, h1, h2⟩ := trimL_from ls k j y h
        exact ⟨i, by omega, h2⟩
    · obtain ⟨i, h1, h2⟩ := trimL_from ls k j y h
      exact ⟨i, by omega, h2⟩
theorem find_min {ls : List Ln} {p : ByteArray} {i : Nat} (h : findF ls p = i) : (∃ x, ls[i]? = some x ∧ findB p x = true) ∧ ∀ (j : Nat) (y : Ln), j < i → ls[j]? = some y → findB p y = false := by
  unfold findF at h
  cases hf : ls.findIdx? (findB p) with
  | none => rw [hf] at h; simp at h
  | some m =>
    rw [hf] at h
    simp at h
    obtain rfl : m = i := by omega
    rw [List.findIdx?_eq_some_iff_getElem] at hf
    obtain ⟨hi, hb, hmin⟩ := hf
    refine ⟨⟨_, List.getElem?_eq_getElem hi, hb⟩, fun j y hj hy => ?_⟩
    have := hmin j hj
    rw [List.getElem?_eq_getElem (by omega)] at hy
    simp only [Option.some.injEq] at hy
    rw [hy] at this
    simpa using this
/-- A kept line is found at its new place. -/
theorem find_trim {ls : List Ln} {p : ByteArray} {i k : Nat} {x : Ln} (hf : findF ls p = i) (h : ls[i]? = some x) (hk : keepB ls i x = true) (hik : i < k) : findF (trimL ls k) p = ((trimL ls i).length : Int) := by
  obtain ⟨⟨x', hx', hb⟩, hmin⟩ := find_min hf
  obtain rfl : x' = x := by rw [h] at hx'; simpa using hx'.symm
  obtain ⟨rest, e⟩ := trimL_split h hk hik
  have hno : (trimL ls i).findIdx? (findB p) = none := findIdx_no fun y hy => by
    obtain ⟨j, hj⟩ := List.getElem?_of_mem hy
    obtain ⟨m, hm, hy2, _⟩ := trimL_from ls i j y hj
    exact hmin m y hm hy2
  unfold findF
  rw [e, List.findIdx?_append, hno, List.findIdx?_cons, hb]
  simp
theorem find_gone {ls : List Ln} {p : ByteArray} {k : Nat} (h : ∀ (j : Nat) (y : Ln), j < k → ls[j]? = some y → findB p y = false) : findF (trimL ls k) p = -1 := by
  have hno : (trimL ls k).findIdx? (findB p) = none := findIdx_no fun y hy => by
    obtain ⟨j, hj⟩ := List.getElem?_of_mem hy
    obtain ⟨m, hm, hy2, _⟩ := trimL_from ls k j y hj
    exact h m y hm hy2
  unfold findF
  rw [hno]
/-- The numbers of the lines that are kept. -/
def keptL (ls : List Ln) (W : List Int) : Nat → List Int
  | 0 => []
  | k + 1 => match ls[k]? with
    | some x => if keepB ls k x = true then keptL ls W k ++ [W.getD k 0] else keptL ls W k
    | none => keptL ls W k
theorem keptL_step {ls : List Ln} {W : List Int} {k : Nat} {x : Ln} (h : ls[k]? = some x) : keptL ls W (k + 1) = if keepB ls k x = true then keptL ls W k ++ [W.getD k 0] else keptL ls W k := by rw [keptL, h]
theorem keptL_length (ls : List Ln) (W : List Int) : ∀ k, (keptL ls W k).length = (trimL ls k).length
  | 0 => rfl
  | k + 1 => by
    have ih := keptL_length ls W k
    cases hx : ls[k]? with
    | none => rw [keptL, trimL, hx]; exact ih
    | some x =>
      rw [keptL_step hx, trimL_step hx]
      split
      · simp [ih]
      · exact ih
theorem keptL_more (ls : List Ln) (W : List Int) {i k : Nat} {x : Ln} (h : ls[i]? = some x) (hk : keepB ls i x = true) : ∀ d, i + 1 + d = k → ∃ rest, keptL ls W k = keptL ls W i ++ W.getD i 0 :: rest
  | 0, e => by
    subst e
    exact ⟨[], by show keptL ls W (i + 1) = _; rw [keptL_step h, if_pos hk]⟩
  | d + 1, e => by
    subst e
    obtain ⟨rest, hr⟩ := keptL_more ls W h hk d rfl
    show ∃ rest, keptL ls W (i + 1 + d + 1) = _
    rw [keptL]
    split
    · split
      · exact ⟨rest ++ [_], by rw [hr, List.append_assoc]; rfl⟩
      · exact ⟨rest, hr⟩
    · exact ⟨rest, hr⟩
theorem keptL_at {ls : List Ln} {W : List Int} {i k : Nat} {x : Ln} (h : ls[i]? = some x) (hk : keepB ls i x = true) (hik : i < k) : atN (keptL ls W k) ((trimL ls i).length : Int) = atN W (i : Int) := by
  obtain ⟨rest, e⟩ := keptL_more ls W h hk (k - i - 1) (k := k) (by omega)
  unfold atN
  rw [e, List.getD_eq_getElem?_getD, List.getElem?_append_right (by rw [keptL_length]; omega), keptL_length]
  simp
/-- A part of a kept line: it is kept, and found at its new place. -/
theorem part_kept {ls : List Ln} (hg : laGoodF ls = true) {k : Nat} {x : Ln} (h : ls[k]? = some x) (hk : keepB ls k x = true) {p : ByteArray} (hp : p ∈ x.parts) :
    ∃ (i : Nat) (y : Ln), i < k ∧ findF ls p = i ∧ ls[i]? = some y ∧ keepB ls i y = true := by
  obtain ⟨_, h0, h2⟩ := good_find hg h hp
  obtain ⟨i, hi⟩ := Int.eq_ofNat_of_zero_le h0
  have hik : i < k := by omega
  have hkl : k < ls.length := (List.getElem?_eq_some_iff.1 h).1
  obtain ⟨y, hy⟩ : ∃ y, ls[i]? = some y := ⟨_, List.getElem?_eq_getElem (by omega)⟩
  refine ⟨i, y, hik, hi, hy, ?_⟩
  have hn : isOut x = true ∨ ndF ls k = true := by
    rw [keepB_eq, Bool.or_eq_true, Bool.or_eq_true] at hk
    rcases hk with (hk | hk) | hk
    · exact .inr hk
    · exact .inl hk
    · exfalso
      have := (good_line hg h).1
      have hk1 : x.kind = 1 := by simpa using hk
      rw [hk1] at this
      unfold wideL at this
      rw [List.length_map] at this
      have hl : x.parts.length = 0 := by simp [laParts] at this; simpa using this
      rw [List.eq_nil_of_length_eq_zero hl] at hp
      simp at hp
  have := nd_closed hg h hn hp
  rw [hi] at this
  have hnf : ndF ls i = true := by simpa using this
  rw [keepB_eq, hnf]; rfl
theorem partsBy_all {f : ByteArray → Int} {ws : List Int} : ∀ {ps : List ByteArray}, (∀ p ∈ ps, 0 ≤ f p) → partsBy f ws ps = some (ps.map fun p => atN ws (f p))
  | [], _ => rfl
  | p :: r, h => by
    have h1 := h p (by simp)
    rw [partsBy, if_neg (by omega), partsBy_all fun q hq => h q (List.mem_cons_of_mem _ hq)]; rfl
/-! ### The trimmed program is a program -/
theorem trim_widths {ls : List Ln} (hg : laGoodF ls = true) : ∀ k, k ≤ ls.length → laWidths (trimL ls k) = keptL ls (laWidths ls) k
  | 0, _ => rfl
  | k + 1, hk => by
    have ih := trim_widths hg k (by omega)
    obtain ⟨x, hx⟩ : ∃ x, ls[k]? = some x := ⟨_, List.getElem?_eq_getElem (by omega)⟩
    rw [trimL_step hx, keptL_step hx]
    split
    · rename_i hkeep
      have e1 : laWidths (trimL ls k ++ [x]) = laWidths (trimL ls k) ++ [laWidth (trimL ls k) (laWidths (trimL ls k)) x] := by
        unfold laWidths
        rw [laWidthsFrom_append, List.nil_append]
        rfl
      rw [e1, ih]
      congr 2
      obtain ⟨g1, g2, g3, g4⟩ := good_line hg hx
      have h1 := laWidths_get hx
      have h2 := ((widths_good ls).2 hg).2.2.1 k _ h1
      have hW : (laWidths ls).getD k 0 = kindW x (wideL ls (laWidths ls) x) := by rw [List.getD_eq_getElem?_getD, g3]; rfl
      rw [hW]
      have hparts : partsBy (findF (trimL ls k)) (keptL ls (laWidths ls) k) x.parts = some (wideL ls (laWidths ls) x) := by
        rw [partsBy_all fun p hp => by
          obtain ⟨i, y, hik, hf, hy, hky⟩ := part_kept hg hx hkeep hp
          rw [find_trim hf hy hky hik]; omega]
        congr 1
        unfold wideL
        refine List.map_congr_left fun p hp => ?_
        obtain ⟨i, y, hik, hf, hy, hky⟩ := part_kept hg hx hkeep hp
        rw [find_trim hf hy hky hik, hf]
        exact keptL_at hy hky hik
      unfold laWidth at h2 ⊢
      rw [hparts]
      split at h2
      · omega
      · split at h2
        · omega
        · rename_i w hw hn
          rw [if_neg, if_neg]
          · simp only [Bool.or_eq_true, not_or, Bool.not_eq_true', Bool.not_eq_false, bne_iff_ne, ne_eq, Decidable.not_not]
            exact ⟨g2, g1⟩
          · intro hc
            apply hn
            simp only [Bool.and_eq_true, Bool.or_eq_true] at hc ⊢
            refine ⟨hc.1, ?_⟩
            rcases hc.2 with h3 | h3
            · exact .inl h3
            · exfalso
              have h4 : ¬ 0 ≤ findF (ls.take k) x.name := by
                intro h5
                apply hn
                simp only [Bool.and_eq_true, Bool.or_eq_true]
                exact ⟨hc.1, .inr (by simpa using h5)⟩
              have h6 : findF (trimL ls k) x.name = -1 := find_gone fun j y hj hy => by
                cases hb : findB x.name y
                · rfl
                · exfalso
                  apply h4
                  unfold findF
                  cases hf : (ls.take k).findIdx? (findB x.name) with
                  | some m => simp
                  | none =>
                    rw [List.findIdx?_eq_none_iff] at hf
                    have := hf y (List.mem_of_getElem? (i := j) (by rw [List.getElem?_take, if_pos hj]; exact hy))
                    rw [hb] at this
                    cases this
              rw [h6] at h3
              simp at h3
    · exact ih
end Go.Proofs.Ytdlddkgmjpmenaa
/-
  Plain laws of trimming, on: inputs, results, and trimming twice.
-/
namespace Go.Proofs.Ytdlddkgmjpmenaa
open Go.RowKit
set_option linter.unusedVariables false
set_option linter.unusedSimpArgs false

theorem not_kept {ls : List Ln} {k : Nat} {x : Ln} (h : ¬ keepB ls k x = true) : isOut x = false ∧ x.kind ≠ 1 := by
  rw [keepB_eq, Bool.or_eq_true, Bool.or_eq_true, not_or, not_or] at h
  obtain ⟨⟨_, h1⟩, h2⟩ := h
  exact ⟨by simpa using h1, by simpa using h2⟩
theorem trim_inputs (ls : List Ln) (p : Int) : ∀ k, k ≤ ls.length → inputsL (trimL ls k) p = inputsL (ls.take k) p
  | 0, _ => by simp [trimL]
  | k + 1, hk => by
    have ih := trim_inputs ls p k (by omega)
    obtain ⟨x, hx⟩ : ∃ x, ls[k]? = some x := ⟨_, List.getElem?_eq_getElem (by omega)⟩
    rw [trimL_step hx, List.take_add_one, hx, inputsL_append]
    split
    · rw [inputsL_append, ih]; rfl
    · rename_i hn
      have h1 := (not_kept hn).2
      rw [ih]
      have : inputsL (some x).toList p = [] := by
        unfold inputsL
        simp [h1]
      rw [this, List.append_nil]
theorem countOuts_append (a b : List Ln) : countOuts (a ++ b) = countOuts a + countOuts b := by
  unfold countOuts
  rw [List.filter_append, List.length_append]
  omega
theorem trim_outs (ls : List Ln) : ∀ k, k ≤ ls.length → countOuts (trimL ls k) = countOuts (ls.take k)
  | 0, _ => by simp [trimL]
  | k + 1, hk => by
    have ih := trim_outs ls k (by omega)
    obtain ⟨x, hx⟩ : ∃ x, ls[k]? = some x := ⟨_, List.getElem?_eq_getElem (by omega)⟩
    rw [trimL_step hx, List.take_add_one, hx, countOuts_append]
    split
    · rw [countOuts_append, ih]; rfl
    · rename_i hn
      have h1 := (not_kept hn).1
      rw [ih]
      have : countOuts (some x).toList = 0 := by
        unfold countOuts
        unfold isOut at h1
        simp [h1]
      omega
theorem keptL_mem {ls : List Ln} {W : List Int} (hl : W.length = ls.length) : ∀ k, ∀ v ∈ keptL ls W k, v ∈ W
  | 0, v, h => by simp [keptL] at h
  | k + 1, v, h => by
    rw [keptL] at h
    split at h
    · rename_i x hx
      have hk : k < ls.length := (List.getElem?_eq_some_iff.1 hx).1
      split at h
      · rw [List.mem_append] at h
        rcases h with h | h
        · exact keptL_mem hl k v h
        · simp only [List.mem_singleton] at h
          rw [h, List.getD_eq_getElem?_getD, List.getElem?_eq_getElem (by omega)]
          exact List.getElem_mem _
      · exact keptL_mem hl k v h
    · exact keptL_mem hl k v h
theorem trim_len (ls : List Ln) : ∀ k, (trimL ls k).length ≤ k
  | 0 => by simp [trimL]
  | k + 1 => by
    have ih := trim_len ls k
    rw [trimL]
    split
    · split
      · rw [List.length_append]; simp; omega
      · omega
    · omega
/-- A trimmed program is a program. -/
theorem trim_good {ls : List Ln} (hg : laGoodF ls = true) : laGoodF (trimL ls ls.length) = true := by
  have hok := ((widths_good ls).2 hg).2
  have hg' := hg
  unfold laGoodF at hg'
  simp only [Bool.and_eq_true, decide_eq_true_eq] at hg'
  obtain ⟨h1, h2, h3, h4, h5⟩ := hg'
  have hw := trim_widths hg ls.length (Nat.le_refl _)
  have hi := fun p => trim_inputs ls p ls.length (Nat.le_refl _)
  have ho := trim_outs ls ls.length (Nat.le_refl _)
  have hl := trim_len ls ls.length
  simp only [List.take_length] at hi ho
  have hlen : (laWidths (trimL ls ls.length)).length = (trimL ls ls.length).length := laWidths_length _
  have hc1 := outs_count (trimL ls ls.length) (laWidths (trimL ls ls.length)) hlen
  have hc2 := outs_count ls (laWidths ls) (laWidths_length _)
  unfold laGoodF
  simp only [Bool.and_eq_true, decide_eq_true_eq]
  rw [hi, hi]
  refine ⟨by omega, ?_, h3, h4, by omega⟩
  rw [hw]
  rw [List.all_eq_true] at h2 ⊢
  exact fun v hv => h2 v (keptL_mem (laWidths_length _) _ v hv)
/-! ### Values -/
theorem lineVal_trim {ls : List Ln} (hg : laGoodF ls = true) {k : Nat} {x : Ln} (h : ls[k]? = some x) (hk : keepB ls k x = true) (a b vs : List Int) (t0 t1 : Nat) :
    lineVal (trimL ls ls.length) (laWidths (trimL ls ls.length)) a b x (keptL ls vs k) t0 t1 = lineVal ls (laWidths ls) a b x vs t0 t1 := by
  have hkl : k < ls.length := (List.getElem?_eq_some_iff.1 h).1
  have e1 : (x.parts.map fun p => atN (keptL ls vs k) (findF (trimL ls ls.length) p)) = x.parts.map fun p => atN vs (findF ls p) := by
    refine List.map_congr_left fun p hp => ?_
    obtain ⟨i, y, hik, hf, hy, hky⟩ := part_kept hg h hk hp
    rw [find_trim hf hy hky (by omega : i < ls.length), hf]
    exact keptL_at hy hky hik
  have e2 : wideL (trimL ls ls.length) (laWidths (trimL ls ls.length)) x = wideL ls (laWidths ls) x := by
    unfold wideL
    refine List.map_congr_left fun p hp => ?_
    obtain ⟨i, y, hik, hf, hy, hky⟩ := part_kept hg h hk hp
    rw [find_trim hf hy hky (by omega : i < ls.length), hf, trim_widths hg ls.length (Nat.le_refl _)]
    exact keptL_at hy hky (by omega)
  unfold lineVal
  rw [e1, e2]
theorem keptL_snoc {ls : List Ln} {vs : List Int} (v : Int) : ∀ k, k ≤ vs.length → keptL ls (vs ++ [v]) k = keptL ls vs k
  | 0, _ => rfl
  | k + 1, hk => by
    have ih := keptL_snoc (ls := ls) (vs := vs) v k (by omega)
    rw [keptL, keptL, ih]
    split
    · rw [List.getD_eq_getElem?_getD, List.getD_eq_getElem?_getD, List.getElem?_append_left (by omega)]
    · rfl
theorem runV_len {ls : List Ln} {a b : List Int} : ∀ k, k ≤ ls.length → (runV ls a b k).1.length = k
  | 0, _ => rfl
  | k + 1, hk => by
    obtain ⟨x, hx⟩ : ∃ x, ls[k]? = some x := ⟨_, List.getElem?_eq_getElem (by omega)⟩
    rw [runV_step hx]
    unfold stepV
    rw [List.length_append, runV_len k (by omega)]
    rfl
theorem trim_run {ls : List Ln} (hg : laGoodF ls = true) (a b : List Int) : ∀ k, k ≤ ls.length → runV (trimL ls ls.length) a b (trimL ls k).length = (keptL ls (runV ls a b k).1 k, (runV ls a b k).2.1, (runV ls a b k).2.2)
  | 0, _ => rfl
  | k + 1, hk => by
    have ih := trim_run hg a b k (by omega)
    obtain ⟨x, hx⟩ : ∃ x, ls[k]? = some x := ⟨_, List.getElem?_eq_getElem (by omega)⟩
    have hvl := runV_len (ls := ls) (a := a) (b := b) k (by omega)
    rw [trimL_step hx, runV_step hx, keptL_step hx]
    split
    · rename_i hkeep
      have hT := trimL_at (k := ls.length) hx hkeep (by omega)
      rw [List.length_append, show (trimL ls k).length + [x].length = (trimL ls k).length + 1 from rfl, runV_step hT, ih]
      unfold stepV
      dsimp only
      rw [lineVal_trim hg hx hkeep, keptL_snoc _ _ (by omega)]
      congr 2
      rw [List.getD_eq_getElem?_getD, List.getElem?_append_right (by omega), hvl, Nat.sub_self]
      rfl
    · rename_i hn
      have h1 := (not_kept hn).2
      rw [ih]
      unfold stepV
      dsimp only
      rw [if_neg (by rintro ⟨h, _⟩; exact h1 h), if_neg (by rintro ⟨h, _⟩; exact h1 h), keptL_snoc _ _ (by omega)]
theorem trim_vals {ls : List Ln} (hg : laGoodF ls = true) (a b : List Int) : valsL (trimL ls ls.length) a b = keptL ls (valsL ls a b) ls.length := by
  unfold valsL
  rw [trim_run hg a b ls.length (Nat.le_refl _)]
theorem pick_trim {ls : List Ln} (hg : laGoodF ls = true) (vs : List Int) (hv : vs.length = ls.length) : ∀ k, k ≤ ls.length → pickL (trimL ls ls.length) (keptL ls vs ls.length) (trimL ls k).length = pickL ls vs k
  | 0, _ => rfl
  | k + 1, hk => by
    have ih := pick_trim hg vs hv k (by omega)
    obtain ⟨x, hx⟩ : ∃ x, ls[k]? = some x := ⟨_, List.getElem?_eq_getElem (by omega)⟩
    have hvk : vs[k]? = some (vs.getD k 0) := getD_some (by omega)
    rw [trimL_step hx, pickL_step hx hvk]
    split
    · rename_i hkeep
      have hT := trimL_at (k := ls.length) hx hkeep (by omega)
      have hat := keptL_at (W := vs) (k := ls.length) hx hkeep (by omega)
      have hlt : (trimL ls k).length < (keptL ls vs ls.length).length := by
        rw [keptL_length]
        exact (List.getElem?_eq_some_iff.1 hT).1
      have hK : (keptL ls vs ls.length)[(trimL ls k).length]? = some (vs.getD k 0) := by
        rw [getD_some hlt]
        unfold atN at hat
        simpa using hat
      rw [List.length_append, show (trimL ls k).length + [x].length = (trimL ls k).length + 1 from rfl, pickL_step hT hK, ih]
    · rename_i hn
      have h1 := (not_kept hn).1
      have h2 : ¬ x.kind = 6 := by unfold isOut at h1; simpa using h1
      rw [if_neg h2]
      exact ih
theorem trim_asked {ls : List Ln} (hg : laGoodF ls = true) (a b : List Int) : askedB (trimL ls ls.length) a b = askedB ls a b := by
  unfold askedB
  rw [trim_good hg, hg, trim_inputs ls 0 ls.length (Nat.le_refl _), trim_inputs ls 1 ls.length (Nat.le_refl _), List.take_length]
/-- The results are the same. -/
theorem trim_runPF {ls : List Ln} (hg : laGoodF ls = true) (a b : List Int) : runPF (trimL ls ls.length) a b = runPF ls a b := by
  unfold runPF
  rw [trim_asked hg]
  split
  · rename_i hq
    rw [trim_vals hg, pick_trim hg _ (valsL_length hq) ls.length (Nat.le_refl _)]
  · rfl
theorem trim_inWF {ls : List Ln} (hg : laGoodF ls = true) (p : Int) : inWF (trimL ls ls.length) p = inWF ls p := by
  unfold inWF
  rw [trim_good hg, hg, trim_inputs ls p ls.length (Nat.le_refl _), List.take_length]
/-! ### Trimming twice -/
theorem trim_need {ls : List Ln} (hg : laGoodF ls = true) : ∀ (d j : Nat) (x : Ln), ls.length - j = d → ls[j]? = some x → ndF ls j = true → ndF (trimL ls ls.length) (trimL ls j).length = true := by
  intro d
  induction d using Nat.strongRecOn with
  | _ d ih =>
    intro j x hd hx hn
    have hj : j < ls.length := (List.getElem?_eq_some_iff.1 hx).1
    obtain ⟨k, y, p, hy, hc, hp, e⟩ := nd_cause ls.length (Nat.le_refl _) hn
    have hk : k < ls.length := (List.getElem?_eq_some_iff.1 hy).1
    obtain ⟨_, h0, h2⟩ := good_find hg hy hp
    have hkeepk : keepB ls k y = true := by
      rw [keepB_eq]
      rcases hc with hc | hc <;> rw [hc] <;> simp
    have hkeepj : keepB ls j x = true := by rw [keepB_eq, hn]; rfl
    have hT := trimL_at (k := ls.length) hy hkeepk hk
    have hfj : findF ls p = (j : Int) := by omega
    have hc2 : isOut y = true ∨ ndF (trimL ls ls.length) (trimL ls k).length = true := by
      rcases hc with hc | hc
      · exact .inl hc
      · exact .inr (ih (ls.length - k) (by omega) k y rfl hy hc)
    have := nd_closed (trim_good hg) hT hc2 hp
    rw [find_trim hfj hx hkeepj hj] at this
    simpa using this
theorem trim_same {T : List Ln} (h : ∀ (j : Nat) (y : Ln), T[j]? = some y → keepB T j y = true) : ∀ k, k ≤ T.length → trimL T k = T.take k
  | 0, _ => by simp [trimL]
  | k + 1, hk => by
    obtain ⟨x, hx⟩ : ∃ x, T[k]? = some x := ⟨_, List.getElem?_eq_getElem (by omega)⟩
    rw [trimL_step hx, if_pos (h k x hx), trim_same h k (by omega), List.take_add_one, hx]
    rfl
/-- A trimmed program is trimmed already. -/
theorem trim_again {ls : List Ln} (hg : laGoodF ls = true) : trimF (trimL ls ls.length) = (trimL ls ls.length, true) := by
  unfold trimF
  rw [if_pos (trim_good hg), trim_same (fun j y hy => ?_) _ (Nat.le_refl _), List.take_length]
  obtain ⟨i, hi, hx, hk, e⟩ := trimL_from ls _ j y hy
  subst e
  rw [keepB_eq] at hk ⊢
  cases hn : ndF ls i
  · rw [hn] at hk
    simp only [Bool.false_or] at hk
    rw [Bool.or_assoc, hk, Bool.or_true]
  · rw [trim_need hg _ i y rfl hx hn]
    rfl
end Go.Proofs.Ytdlddkgmjpmenaa
