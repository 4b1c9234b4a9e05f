/-
  The language: the value of a line, kind by kind: plain law.
-/
import Derived.Test.YtglehpmaniabbaaVa2
namespace Go.Proofs.Ytglehpmaniabbaa
open Go.RowKit
set_option linter.unusedVariables false
set_option linter.unusedSimpArgs false

def pvL (ls : List Ln) (vs : List Int) (x : Ln) : List Int := x.parts.map fun p => atN vs (findF ls p)
section
variable {ls : List Ln} {a b : List Int} {k : Nat} {x : Ln} {vs : List Int} {t0 t1 : Nat} (hq : askedB ls a b = true) (h : ls[k]? = some x) (ho : OkV ls a b k (vs, t0, t1))
include hq h ho
theorem kind_any : x.kind = 1 ∨ x.kind = 2 ∨ x.kind = 3 ∨ x.kind = 4 ∨ x.kind = 5 ∨ x.kind = 6 := by
  obtain ⟨hg, _, _⟩ := asked_good hq
  have _u := ho
  have g4 := (good_line hg h).2.2.2
  unfold kindW at g4
  by_cases k1 : x.kind = 1
  · omega
  by_cases k2 : x.kind = 2
  · omega
  by_cases k3 : x.kind = 3
  · omega
  by_cases k4 : x.kind = 4 ∨ x.kind = 6
  · omega
  by_cases k5 : x.kind = 5
  · omega
  · rw [if_neg k1, if_neg k2, if_neg k3, if_neg k4, if_neg k5] at g4; omega
theorem kind1_val (k1 : x.kind = 1) : (x.party = 0 ∧ ∃ v, a[t0]? = some v ∧ lineVal ls (laWidths ls) a b x vs t0 t1 = v) ∨ (x.party = 1 ∧ ∃ v, b[t1]? = some v ∧ lineVal ls (laWidths ls) a b x vs t0 t1 = v) := by
  obtain ⟨hg, fa, fb⟩ := asked_good hq
  have hnz := (good_line hg h).2.2.2
  have hp : 0 ≤ x.party ∧ x.party ≤ 1 := by
    unfold kindW at hnz
    rw [if_pos k1] at hnz
    split at hnz
    · next g => simp only [Bool.and_eq_true, inB_iff] at g; exact g.1
    · omega
  have n0 := ho.n0
  have n1 := ho.n1
  simp only [] at n0 n1
  by_cases p1 : x.party = 1
  · right
    have hi := inputs_here h k1 p1
    have hf := fitB_at fb
    have hlt : t1 < b.length := by rw [n1, ← hf.1]; exact (List.getElem?_eq_some_iff.1 hi).1
    refine ⟨p1, b.getD t1 0, getD_some hlt, ?_⟩
    unfold lineVal
    simp only [k1, if_true, p1]
  · left
    have p0 : x.party = 0 := by omega
    have hi := inputs_here h k1 p0
    have hf := fitB_at fa
    have hlt : t0 < a.length := by rw [n0, ← hf.1]; exact (List.getElem?_eq_some_iff.1 hi).1
    refine ⟨p0, a.getD t0 0, getD_some hlt, ?_⟩
    unfold lineVal
    simp only [k1, if_true]
    rw [if_neg p1]
theorem kind2_val (k2 : x.kind = 2) : lineVal ls (laWidths ls) a b x vs t0 t1 = x.value := by
  have k1 : ¬ x.kind = 1 := by omega
  have _u := ho
  have _v := hq
  have _w := h
  unfold lineVal
  simp only []
  rw [if_neg k1, if_pos k2]
theorem kind3_val (k3 : x.kind = 3) : ∃ n u v : Nat, pvL ls vs x = [(u : Int), (v : Int)] ∧ wideL ls (laWidths ls) x = [(n : Int), (n : Int)] ∧ n ≤ 10 ∧ u < 2 ^ n ∧ v < 2 ^ n ∧ opsL.contains x.op = true ∧ lineVal ls (laWidths ls) a b x vs t0 t1 = opF x.op n u v := by
  obtain ⟨hg, _, _⟩ := asked_good hq
  obtain ⟨g1, g2, g3, g4⟩ := good_line hg h
  have hpf := fun p hp => part_fits (p := p) hg h ho hp
  have hop := good_op hg h k3
  have k1 : ¬ x.kind = 1 := by omega
  have k2 : ¬ x.kind = 2 := by omega
  unfold pvL
  unfold wideL at *
  rw [List.length_map, k3] at g1
  have hk : k < ls.length := (List.getElem?_eq_some_iff.1 h).1
  match hps : x.parts, g1 with
  | [p0, p1], _ =>
    have f0 := hpf p0 (by rw [hps]; simp)
    have f1 := hpf p1 (by rw [hps]; simp)
    rw [hps] at g4
    simp only [List.map_cons, List.map_nil] at g4 ⊢
    have e : kindW x [atN (laWidths ls) (findF ls p0), atN (laWidths ls) (findF ls p1)] = laTwo x.op (atN (laWidths ls) (findF ls p0)) (atN (laWidths ls) (findF ls p1)) := by
      unfold kindW; rw [if_neg k1, if_neg k2, if_pos k3]; rfl
    rw [e] at g4
    have ew : atN (laWidths ls) (findF ls p0) = atN (laWidths ls) (findF ls p1) := by
      by_cases he : atN (laWidths ls) (findF ls p0) = atN (laWidths ls) (findF ls p1)
      · exact he
      · exfalso
        have : laTwo x.op (atN (laWidths ls) (findF ls p0)) (atN (laWidths ls) (findF ls p1)) = 0 := by unfold laTwo; rw [if_pos (by simp [he])]
        omega
    obtain ⟨_, h0, h1⟩ := good_find hg h (p := p0) (by rw [hps]; simp)
    have hw := ((widths_good ls).2 hg).2.2.1 _ _ (atN_some (l := laWidths ls) h0 (by rw [laWidths_length]; omega))
    rw [← ew] at f1
    obtain ⟨n, hn⟩ := Int.eq_ofNat_of_zero_le (show 0 ≤ atN (laWidths ls) (findF ls p0) by omega)
    obtain ⟨u, hu⟩ := Int.eq_ofNat_of_zero_le f0.1
    obtain ⟨v, hv⟩ := Int.eq_ofNat_of_zero_le f1.1
    refine ⟨n, u, v, by rw [← hu, ← hv], by rw [← hn, ← ew], by omega, ?_, ?_, hop, ?_⟩
    · rw [hn, hu] at f0; exact (fits_nat (b := 0)).1 f0
    · rw [hn, hv] at f1; exact (fits_nat (b := 0)).1 f1
    · unfold lineVal wideL
      simp only [k1, if_false, k2, k3, if_true, hps, List.map_cons, List.map_nil]
      show opF x.op (atN (laWidths ls) (findF ls p0)) (atN vs (findF ls p0)) (atN vs (findF ls p1)) = _
      rw [hn]
      simp only [] at hu hv
      rw [hu, hv]
theorem kind4_val (k4 : x.kind = 4) : ∃ n u : Nat, pvL ls vs x = [(u : Int)] ∧ wideL ls (laWidths ls) x = [(n : Int)] ∧ n ≤ 10 ∧ u < 2 ^ n ∧ lineVal ls (laWidths ls) a b x vs t0 t1 = 2 ^ n - 1 - u := by
  obtain ⟨hg, _, _⟩ := asked_good hq
  obtain ⟨g1, g2, g3, g4⟩ := good_line hg h
  have hpf := fun p hp => part_fits (p := p) hg h ho hp
  have k1 : ¬ x.kind = 1 := by omega
  have k2 : ¬ x.kind = 2 := by omega
  have k3 : ¬ x.kind = 3 := by omega
  unfold pvL
  unfold wideL at *
  rw [List.length_map, k4] at g1
  have hk : k < ls.length := (List.getElem?_eq_some_iff.1 h).1
  match hps : x.parts, g1 with
  | [p0], _ =>
    have f0 := hpf p0 (by rw [hps]; simp)
    simp only [List.map_cons, List.map_nil]
    obtain ⟨_, h0, h1⟩ := good_find hg h (p := p0) (by rw [hps]; simp)
    have hw := ((widths_good ls).2 hg).2.2.1 _ _ (atN_some (l := laWidths ls) h0 (by rw [laWidths_length]; omega))
    obtain ⟨n, hn⟩ := Int.eq_ofNat_of_zero_le (show 0 ≤ atN (laWidths ls) (findF ls p0) by omega)
    obtain ⟨u, hu⟩ := Int.eq_ofNat_of_zero_le f0.1
    refine ⟨n, u, by rw [← hu], by rw [← hn], by omega, ?_, ?_⟩
    · rw [hn, hu] at f0; exact (fits_nat (b := 0)).1 f0
    · unfold lineVal wideL
      simp only [k1, if_false, k2, k3, k4, if_true, hps, List.map_cons, List.map_nil]
      show 2 ^ (atN (laWidths ls) (findF ls p0)).toNat - 1 - atN vs (findF ls p0) = _
      simp only [] at hu
      rw [hn, hu, Int.toNat_natCast]
theorem kind5_val (k5 : x.kind = 5) : ∃ u v w : Int, pvL ls vs x = [u, v, w] ∧ ((u = 0 ∧ lineVal ls (laWidths ls) a b x vs t0 t1 = w) ∨ (u = 1 ∧ lineVal ls (laWidths ls) a b x vs t0 t1 = v)) := by
  obtain ⟨hg, _, _⟩ := asked_good hq
  obtain ⟨g1, g2, g3, g4⟩ := good_line hg h
  have hpf := fun p hp => part_fits (p := p) hg h ho hp
  have k1 : ¬ x.kind = 1 := by omega
  have k2 : ¬ x.kind = 2 := by omega
  have k3 : ¬ x.kind = 3 := by omega
  have k4 : ¬ x.kind = 4 := by omega
  unfold pvL
  unfold wideL at *
  rw [List.length_map, k5] at g1
  match hps : x.parts, g1 with
  | [p0, p1, p2], _ =>
    have f0 := hpf p0 (by rw [hps]; simp)
    rw [hps] at g4
    simp only [List.map_cons, List.map_nil] at g4 ⊢
    unfold kindW at g4
    rw [if_neg k1, if_neg k2, if_neg k3, if_neg (by omega), if_pos k5] at g4
    split at g4
    · next g =>
      simp only [Bool.and_eq_true, beq_iff_eq] at g
      obtain ⟨ga, gb⟩ := g
      change atN (laWidths ls) (findF ls p0) = 1 at ga
      rw [ga] at f0
      unfold fits at f0
      simp only [] at f0
      have hu : atN vs (findF ls p0) = 0 ∨ atN vs (findF ls p0) = 1 := by
        have : (2 : Int) ^ (1 : Int).toNat = 2 := rfl
        omega
      have hl : lineVal ls (laWidths ls) a b x vs t0 t1 = ([atN vs (findF ls p0), atN vs (findF ls p1), atN vs (findF ls p2)] : List Int).getD (2 - atN vs (findF ls p0)).toNat 0 := by
        unfold lineVal
        simp only [k1, if_false, k2, k3, k4, k5, if_true, hps, List.map_cons, List.map_nil]
        rfl
      refine ⟨_, _, _, rfl, ?_⟩
      rcases hu with e | e
      · left; refine ⟨e, ?_⟩; rw [hl, e]; rfl
      · right; refine ⟨e, ?_⟩; rw [hl, e]; rfl
    · omega
theorem kind6_val (k6 : x.kind = 6) : ∃ u : Int, pvL ls vs x = [u] ∧ lineVal ls (laWidths ls) a b x vs t0 t1 = u := by
  have _u := ho
  obtain ⟨hg, _, _⟩ := asked_good hq
  obtain ⟨g1, g2, g3, g4⟩ := good_line hg h
  have k1 : ¬ x.kind = 1 := by omega
  have k2 : ¬ x.kind = 2 := by omega
  have k3 : ¬ x.kind = 3 := by omega
  have k4 : ¬ x.kind = 4 := by omega
  have k5 : ¬ x.kind = 5 := by omega
  unfold pvL
  unfold wideL at *
  rw [List.length_map, k6] at g1
  match hps : x.parts, g1 with
  | [p0], _ =>
    refine ⟨atN vs (findF ls p0), rfl, ?_⟩
    unfold lineVal
    simp only [k1, if_false, k2, k3, k4, k5, hps, List.map_cons, List.map_nil]
    rfl
end
end Go.Proofs.Ytglehpmaniabbaa
