/-
  The language: marks in the laws: texts that a call has handed back.
-/
import Derived.Test.YtglehpmaniabbaaMk3
namespace Go.Proofs.Ytglehpmaniabbaa
open Go.RowKit
set_option linter.unusedVariables false
set_option linter.unusedSimpArgs false

def marksT (k : Nat) : Nat → List ByteArray
  | 0 => []
  | n + 1 => markT k :: marksT (k + 1) n
theorem marksT_length : ∀ (n k : Nat), (marksT k n).length = n
  | 0, _ => rfl
  | n + 1, k => by rw [marksT, List.length_cons, marksT_length n]
theorem marksT_get : ∀ (n k i : Nat), i < n → (marksT k n)[i]? = some (markT (k + i))
  | 0, _, _, h => by omega
  | n + 1, k, 0, _ => by simp [marksT]
  | n + 1, k, i + 1, h => by
    rw [marksT, List.getElem?_cons_succ, marksT_get n (k + 1) i (by omega)]
    congr 2; omega
set_option maxHeartbeats 2000000 in
theorem markStringS_any (w : World) (B : Nat) (ao : Option Addr) (n cap : Nat) (q : Nat) (ss : List ByteArray) (ho : OwnSt B w ao n cap ss) (hq : q ≤ 1000000000) (hn20 : n ≤ 1048576) :
    Calls Try.prog 44 #[.slice ao n cap, .int .i64 q] w fun e w' => e = .returned (.int .i64 ((q + n : Nat) : Int)) ∧ OwnSt B w' ao n cap (marksT q n) ∧ Kept B w.heap.size w w' := by
  have hn := ho.le
  rcases Nat.eq_zero_or_pos n with rfl | hp
  · have hx : ss = [] := List.eq_nil_of_length_eq_zero ho.1
    subst hx
    go_enter Try.func44, Try.ntmps44
    go_wp2
    refine wp_loop_rounds 1 ?_
    rw [rounds_succ]
    go_wp2
    go_ret
    exact ⟨rfl, ho, Kept.refl _ _ _⟩
  obtain ⟨g, rfl, hBg, hgl, hrow⟩ := ho.2.2.some hp
  have hlen := Lib.hid ho.1
  go_enter Try.func44, Try.ntmps44
  go_wp2
  go_loopw [1, 5] (fun qv i wr => ∃ (k : Nat) (cs : List Value), k ≤ n ∧ i = .int .i64 k ∧ qv = .int .i64 ((q + k : Nat) : Int) ∧ cs.length = n ∧ wr.ownsRow B 9 1 (.slice (some ⟨g, 0, none⟩) n cap) n ((marksT q k).map Value.string ++ cs.drop k) ∧ Kept B w.heap.size w wr) (fun _ i _ => n - (intOf i).toNat)
  case atStart => exact ⟨0, ss.map Value.string, Nat.zero_le _, rfl, rfl, by simp [hlen.out], by simpa [marksT] using hrow, Kept.refl _ _ _⟩
  case round =>
    obtain ⟨k, cs, hk, rfl, rfl, hcl, hr, hke⟩ := hrel
    by_cases hlt : k < n
    · have HR := Lib.hid hr
      have HCL := Lib.hid hcl
      have hgw : g < wr.heap.size := Nat.lt_of_lt_of_le hgl hke.size
      clear hr hcl
      go_wp2_with fail
      refine (markText_any _ _ (by omega)).mono ?_
      rintro e w2 ⟨rfl, hb2⟩
      have hr2 := ownsRow_below HR.out hb2 (Nat.le_refl _)
      obtain ⟨u, hu⟩ : ∃ u, w2.cell? ⟨g, k, none⟩ = some u := by
        rw [World.ownsRow.cellAt hr2 k (by omega)]
        refine ⟨_, List.getElem?_eq_getElem (by rw [hr2.1]; omega)⟩
      have hf := World.ownsRow.frozenAt hr2 k
      have hst := (World.ownsRow.stored hr2 k (.string (markT (q + k)))).1
      have hL : ((marksT q k).map Value.string ++ cs.drop k).set k (.string (markT (q + k))) = (marksT q (k + 1)).map Value.string ++ cs.drop (k + 1) := by
        have e1 : ((marksT q k).map Value.string).length = k := by rw [List.length_map, marksT_length]
        rw [List.set_append_right _ _ (by omega), e1, Nat.sub_self, List.drop_eq_getElem_cons (by rw [HCL.out]; exact hlt), List.set_cons_zero]
        have e2 : marksT q (k + 1) = marksT q k ++ [markT (q + k)] := by
          apply List.ext_getElem?
          intro i
          by_cases hi : i < k
          · rw [marksT_get _ _ _ (by omega), List.getElem?_append_left (by rw [marksT_length]; exact hi), marksT_get _ _ _ hi]
          · by_cases hi2 : i = k
            · subst hi2
              rw [marksT_get _ _ _ (by omega), List.getElem?_append_right (by rw [marksT_length]; omega), marksT_length]; simp
            · rw [List.getElem?_eq_none (by rw [marksT_length]; omega), List.getElem?_eq_none (by rw [List.length_append, marksT_length]; simp; omega)]
        rw [e2, List.map_append, List.append_assoc]; rfl
      rw [hL] at hst
      have HST := Lib.hid hst
      have hke3 := (hke.trans (Kept.of_below (C := B) (D := w.heap.size) hb2 (Nat.le_refl _))).set ⟨g, k, none⟩ (.string (markT (q + k))) hBg hgl
      clear hst hL hr2
      go_wp2_with fail
      go_roundw
      case rel => exact ⟨k + 1, cs, by omega, by go_num, by go_num, HCL.out, HST.out, hke3⟩
      case measure => simp [intOf] <;> omega
    · obtain rfl : k = n := by omega
      rw [List.drop_of_length_le (by omega), List.append_nil] at hr
      have HR := Lib.hid hr
      clear hr
      go_wp2_with fail
      go_ret
      exact ⟨rfl, ⟨marksT_length _ _, hn, .inr ⟨g, rfl, HR.out⟩⟩, hke⟩
set_option maxHeartbeats 2000000 in
theorem heldStringS_any (w : World) (B : Nat) (ao : Option Addr) (n c : Nat) (q : Nat) (ha : Strs w B ao n (marksT q n)) (hB : B ≤ w.heap.size) (hq : q ≤ 1000000000) (hn20 : n ≤ 1048576) :
    Calls Try.prog 45 #[.slice ao n c, .int .i64 q] w (RetN ((q + n : Nat) : Int) w) := by
  have hn := ha.le
  go_enter Try.func45, Try.ntmps45
  go_wp2
  go_loopw [1, 5] (fun qv i wr => ∃ k : Nat, k ≤ n ∧ i = .int .i64 k ∧ qv = .int .i64 ((q + k : Nat) : Int) ∧ Below w.heap.size w wr) (fun _ i _ => n - (intOf i).toNat)
  case atStart => exact ⟨0, Nat.zero_le _, rfl, rfl, Below.refl _ _⟩
  case round =>
    obtain ⟨k, hk, rfl, rfl, hbel⟩ := hrel
    by_cases hlt : k < n
    · obtain ⟨b1, o1, x, rfl, hb1, hx, hc1⟩ := (ha.below hbel hB).at hlt
      rw [marksT_get _ _ _ hlt] at hx
      simp only [Option.some.injEq] at hx
      subst hx
      have hbw : b1 < w.heap.size := Nat.lt_of_lt_of_le hb1 hB
      have hS : ∀ W, Below wr.heap.size wr W → W.cell? ⟨b1, o1 + k, none⟩ = some (.string (markT (q + k))) ∧ Below w.heap.size w W :=
        fun W h => ⟨(h.cell (p := ⟨b1, o1 + k, none⟩) (Nat.lt_of_lt_of_le hbw hbel.size)).trans hc1, hbel.trans (h.mono hbel.size)⟩
      have hS2 : ∀ W W', (W.cell? ⟨b1, o1 + k, none⟩ = some (.string (markT (q + k))) ∧ Below w.heap.size w W) → Below W.heap.size W W' → (W'.cell? ⟨b1, o1 + k, none⟩ = some (.string (markT (q + k))) ∧ Below w.heap.size w W') :=
        fun W W' h hb => ⟨(hb.cell (p := ⟨b1, o1 + k, none⟩) (Nat.lt_of_lt_of_le hbw h.2.size)).trans h.1, h.2.trans (hb.mono h.2.size)⟩
      have HS := Lib.hid hS
      have HS2 := Lib.hid hS2
      clear hS hS2
      go_wp2_with fail
      go_region_held3 (fun w' => w'.cell? ⟨b1, o1 + k, none⟩ = some (.string (markT (q + k))) ∧ Below w.heap.size w w') (first | exact HS.out _ (bdrewN (Below.refl _ _) 1) | exact HS2.out _ _ (by assumption) hb')
        (first | (go_at_call 43; refine (markText_any _ _ (by omega)).mono ?_; rintro e w' ⟨rfl, hb'⟩))
      all_goals
        rename_i hfin
        go_wp2_with fail
        go_roundw
        case rel => exact ⟨k + 1, by omega, by go_num, by go_num, hfin.2⟩
        case measure => simp [intOf] <;> omega
    · obtain rfl : k = n := by omega
      go_wp2
      go_ret
      exact ⟨rfl, hbel⟩
end Go.Proofs.Ytglehpmaniabbaa
