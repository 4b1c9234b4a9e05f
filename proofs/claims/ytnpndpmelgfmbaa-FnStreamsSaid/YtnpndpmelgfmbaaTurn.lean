/-
  Turned bits, values of polynomials, streams, orders from words.
-/
import Derived.Test.YtnpndpmelgfmbaaWord
namespace Go.Proofs.Ytnpndpmelgfmbaa
open Go.RowKit

/-! ### Turned bits -/
def turnL (xs : List Int) (k : Int) : List Int := (List.range xs.length).map fun (i : Nat) => xs.getD (((i : Int) + k) % xs.length).toNat 0
theorem turnL_length (xs : List Int) (k : Int) : (turnL xs k).length = xs.length := by simp [turnL]
theorem turn_at {xs : List Int} {n i : Nat} {k : Int} (hl : xs.length = n) (hi : i < n) : ∃ j : Nat, ((i : Int) + k) % n = j ∧ j < n ∧ (turnL xs k)[i]? = xs[j]? := by
  have h0 : 0 ≤ ((i : Int) + k) % n := Int.emod_nonneg _ (by omega)
  have h1 : ((i : Int) + k) % n < n := Int.emod_lt_of_pos _ (by omega)
  obtain ⟨j, hj⟩ := Int.eq_ofNat_of_zero_le h0
  refine ⟨j, hj, by omega, ?_⟩
  have hjl : j < xs.length := by omega
  simp only [turnL, List.getElem?_map, hl, List.getElem?_range hi, Option.map_some, hj, Int.toNat_natCast]
  simp [List.getD, List.getElem?_eq_getElem hjl]
def turnBitsF (xs : List Int) (k : Int) : List Int × Bool := if (goodB xs 64 && inB k (-1000) 1000) = true then (turnL xs k, true) else ([], false)
theorem spec_TurnBits_any (w : World) (ao : Option Addr) (n c : Nat) (xs : List Int) (m : Int) (ha : Ints w w.heap.size ao n xs) :
    Calls Try.prog 36 #[.slice ao n c, .int .i64 m] w (RetIB (turnBitsF xs m) w) := by
  have hl := Lib.hid ha.1
  cases hg : goodB xs 64
  · go_enter Try.func36, Try.ntmps36
    go_wp2_with (go_at_call 25; refine (spec_AreBits_any _ _ _ _ _ _ ha).mono ?_; rintro e w' ⟨rfl, rfl⟩)
    go_ret2
    exact ⟨none, 0, 0, by simp [turnBitsF, hg], by simpa [turnBitsF, hg] using OwnI.nil _ _ _, Below.refl _ _⟩
  cases hm : inB m (-1000) 1000
  · go_enter Try.func36, Try.ntmps36
    go_wp2_with (first | (go_at_call 25; refine (spec_AreBits_any _ _ _ _ _ _ ha).mono ?_; rintro e w' ⟨rfl, rfl⟩) | (go_at_call 112; refine (l1In_any _ _ _ _).mono ?_; rintro e w' ⟨rfl, rfl⟩))
    go_ret2
    exact ⟨none, 0, 0, by simp [turnBitsF, hm], by simpa [turnBitsF, hm] using OwnI.nil _ _ _, Below.refl _ _⟩
  · have h2 := goodB_iff.1 hg
    have h3 := inB_iff.1 hm
    rw [hl.out] at h2
    have hn64 : n ≤ 64 := by omega
    clear h2
    go_enter Try.func36, Try.ntmps36
    go_wp2_with (first | (go_at_call 25; refine (spec_AreBits_any _ _ _ _ _ _ ha).mono ?_; rintro e w' ⟨rfl, rfl⟩) | (go_at_call 112; refine (l1In_any _ _ _ _).mono ?_; rintro e w' ⟨rfl, rfl⟩))
    go_loopw [6, 18] (fun out i wr => ∃ (k : Nat) (co : Option Addr) (cap : Nat), k ≤ n ∧ i = .int .i64 k ∧ out = .slice co k cap ∧ OwnI w.heap.size wr co k cap ((turnL xs m).take k) ∧ Below w.heap.size w wr) (fun _ i _ => n - (intOf i).toNat)
    case atStart => exact ⟨0, _, 0, Nat.zero_le _, rfl, rfl, OwnI.nil _ _ _, Below.refl _ _⟩
    case round =>
      obtain ⟨k, co, cap, hk, rfl, rfl, hout, hbel⟩ := hrel
      by_cases hlt : k < n
      · obtain ⟨j, hj, hjn, ht⟩ := turn_at (k := m) hl.out hlt
        obtain ⟨b1, o1, x, rfl, hbl1, hx, hc1⟩ := ha.at hjn
        have g1 : wr.cell? ⟨b1, o1 + j, none⟩ = some (.int .i64 x) := (hbel.cell (by exact hbl1)).trans hc1
        have HS := Lib.hid (take_get (ht.trans hx))
        have HJ := Lib.hid hj
        clear hx ht hj
        go_wp2_with fail
        refine (btMod_any _ _ _ (by omega) (by omega)).mono ?_
        rintro e w' ⟨rfl, rfl⟩
        rw [HJ.out]
        go_wp2_with (at_builtin; refine wpList_append_i rfl _ _ rfl w.heap.size _ _ _ _ _ rfl rfl hout (by omega) hbel.size ?_; intro bo' cap'' w4 hown4 hg4)
        have hbel4 := below_append hbel hout.2.2 hg4 hbel.size
        go_roundw
        case rel => exact ⟨k + 1, bo', cap'', by omega, by go_num, rfl, by rw [HS.out]; exact hown4, hbel4⟩
        case measure => simp [intOf] <;> omega
      · obtain rfl : k = n := by omega
        rw [List.take_of_length_le (by rw [turnL_length, hl.out]; exact Nat.le_refl _)] at hout
        go_wp2_with fail
        go_ret2
        exact ⟨co, k, cap, by simp [turnBitsF, hg, hm], by simpa [turnBitsF, hg, hm] using hout, hbel⟩
theorem impl_TurnBits_any (w : World) (ao : Option Addr) (n c : Nat) (xs : List Int) (m : Int) (ha : Ints w w.heap.size ao n xs) :
    Calls Try.prog 35 #[.slice ao n c, .int .i64 m] w (RetIB (turnBitsF xs m) w) := by
  have hl := Lib.hid ha.1
  cases hg : goodB xs 64
  · go_enter Try.func35, Try.ntmps35
    go_wp2_with (go_at_call 24; refine (impl_AreBits_any _ _ _ _ _ ha).mono ?_; rintro e w1 ⟨rfl, hb1⟩)
    go_ret2
    exact ⟨none, 0, 0, by simp [turnBitsF, hg], by simpa [turnBitsF, hg] using OwnI.nil _ _ _, hb1⟩
  cases hm : inB m (-1000) 1000
  · go_enter Try.func35, Try.ntmps35
    go_wp2_with (first | (go_at_call 24; refine (impl_AreBits_any _ _ _ _ _ ha).mono ?_; rintro e w1 ⟨rfl, hb1⟩) | (go_at_call 103; refine (within_any _ _ _ _).mono ?_; rintro e w' ⟨rfl, rfl⟩))
    go_ret2
    exact ⟨none, 0, 0, by simp [turnBitsF, hm], by simpa [turnBitsF, hm] using OwnI.nil _ _ _, hb1⟩
  · have h2 := goodB_iff.1 hg
    have h3 := inB_iff.1 hm
    rw [hl.out] at h2
    have hn64 : n ≤ 64 := by omega
    clear h2
    go_enter Try.func35, Try.ntmps35
    go_wp2_with (first | (go_at_call 24; refine (impl_AreBits_any _ _ _ _ _ ha).mono ?_; rintro e w1 ⟨rfl, hb1⟩) | (go_at_call 103; refine (within_any _ _ _ _).mono ?_; rintro e w' ⟨rfl, rfl⟩))
    go_loopw [7, 22] (fun out i wr => ∃ (k : Nat) (co : Option Addr) (cap : Nat), k ≤ n ∧ i = .int .i64 k ∧ out = .slice co k cap ∧ OwnI w.heap.size wr co k cap ((turnL xs m).take k) ∧ Below w.heap.size w wr) (fun _ i _ => n - (intOf i).toNat)
    case atStart => exact ⟨0, _, 0, Nat.zero_le _, rfl, rfl, OwnI.nil _ _ _, hb1.alloc hb1.size _⟩
    case round =>
      obtain ⟨k, co, cap, hk, rfl, rfl, hout, hbel⟩ := hrel
      by_cases hlt : k < n
      · obtain ⟨j, hj, hjn, ht⟩ := turn_at (k := m) hl.out hlt
        obtain ⟨b1, o1, x, rfl, hbl1, hx, hc1⟩ := ha.at hjn
        have g1 : wr.cell? ⟨b1, o1 + j, none⟩ = some (.int .i64 x) := (hbel.cell (by exact hbl1)).trans hc1
        have HS := Lib.hid (take_get (ht.trans hx))
        obtain ⟨t1, t2, t3⟩ := tmod_fix ((k : Int) + m) n (by omega)
        rw [hj] at t1
        clear hx ht
        rcases Int.lt_or_le ((k : Int) + m) 0 with hneg | hpos
        · clear hj
          go_wp2_with (at_builtin; refine wpList_append_i rfl _ _ rfl w.heap.size _ _ _ _ _ rfl rfl hout (by omega) hbel.size ?_; intro bo' cap'' w4 hown4 hg4)
          have hbel4 := below_append hbel hout.2.2 hg4 hbel.size
          go_roundw
          case rel => exact ⟨k + 1, bo', cap'', by omega, by go_num, rfl, by rw [HS.out]; exact hown4, hbel4⟩
          case measure => simp [intOf] <;> omega
        · have e2 : ((j : Int) + n) % n = j := by rw [Int.add_emod_right]; exact Int.emod_eq_of_lt (by omega) (by omega)
          clear t1 t2 t3
          go_wp2_with (at_builtin; refine wpList_append_i rfl _ _ rfl w.heap.size _ _ _ _ _ rfl rfl hout (by omega) hbel.size ?_; intro bo' cap'' w4 hown4 hg4)
          have hbel4 := below_append hbel hout.2.2 hg4 hbel.size
          go_roundw
          case rel => exact ⟨k + 1, bo', cap'', by omega, by go_num, rfl, by rw [HS.out]; exact hown4, hbel4⟩
          case measure => simp [intOf] <;> omega
      · obtain rfl : k = n := by omega
        rw [List.take_of_length_le (by rw [turnL_length, hl.out]; exact Nat.le_refl _)] at hout
        go_wp2_with fail
        go_ret2
        exact ⟨co, k, cap, by simp [turnBitsF, hg, hm], by simpa [turnBitsF, hg, hm] using hout, hbel⟩
end Go.Proofs.Ytnpndpmelgfmbaa
