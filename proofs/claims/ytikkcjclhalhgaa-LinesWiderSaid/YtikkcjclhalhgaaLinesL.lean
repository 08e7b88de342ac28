/- The walks over the laws of lines: they return true. -/
import Derived.Test.YtikkcjclhalhgaaLinesF
namespace Go.Proofs.Ytikkcjclhalhgaa
open Go.RowKit LinesM

theorem err_ne {k : Int} (h : k ≠ 0) : errV k = .iface 37 (.int .i64 k) := by unfold errV; rw [if_neg h]

set_option maxRecDepth 100000 in
set_option maxHeartbeats 1000000 in
theorem linesBest_walk (wide : Int) (A A' : Option Addr) (n c n' c' : Nat) (l l' : List Int) (w : World) (hA : Ints w w.heap.size A n l) (hA' : Ints w w.heap.size A' n' l') (hnc : n ≤ c)
    (hm : n ≤ 9223372036854775807) (hm' : n' ≤ 9223372036854775807) :
    Calls Try.prog 3 #[.int .i64 wide, .slice A n c, .slice A' n' c'] w fun e w' => e = .returned (.bool true) ∧ Below w.heap.size w w' := by
  by_cases hk : chk wide l = 0
  · obtain ⟨hw1, hw2, hn, hl⟩ := chk_zero hk
    have hln := hA.1
    have P1 := Lib.hid (costs_best hl)
    have P2 := Lib.hid (costs_greedy hl)
    have P3 := Lib.hid (fun o => costs_other hl o)
    have P4 := Lib.hid (best_len wide l)
    have P5 := Lib.hid (greedy_len wide l)
    have P6 := Lib.hid (bestCost_nonneg hl)
    have HL := Lib.hid hl; clear hl
    go_enter Try.func3, Try.ntmps3
    go_wp2_with fail
    refine (fact_any _).mono ?_
    rintro e w1 ⟨rfl, hb1⟩
    go_wp2_with fail
    have hA1 := (hA.below hb1).more (B' := w1.heap.size) hb1.size
    refine (best_ok wide A n c l w1 hA1 hnc hm hk).mono ?_
    rintro e w2 ⟨v, rfl, B, d, rfl, hd, hi, hb2⟩
    have P1' := P1.out
    have P6' := P6.out
    have P3g := P3.out (greedy wide l)
    have P3o := P3.out l'
    have P2' := P2.out
    have P4' := P4.out
    have P5' := P5.out
    clear P1 P2 P3 P4 P5 P6
    generalize bestCost wide l = bc at *
    generalize best wide l = bl at *
    go_wp2_with fail
    have hA2 := (hA1.below hb2).more (B' := w2.heap.size) hb2.size
    refine (greedy_ok wide A n c l w2 hA2 hnc hm hk).mono ?_
    rintro e w3 ⟨v, rfl, B2, d2, rfl, hd2, hi2, hb3⟩
    generalize greedy wide l = gl at *
    have hA3 := (hA2.below hb3).more (B' := w3.heap.size) hb3.size
    have hi1' := (hi.below hb3).more (B' := w3.heap.size) hb3.size
    have hA3' := (((hA'.below hb1).below (hb2.mono hb1.size)).below (hb3.mono (Nat.le_trans hb1.size hb2.size))).more (B' := w3.heap.size) (Nat.le_trans hb1.size (Nat.le_trans hb2.size hb3.size))
    have HB := Lib.hid (hb1.trans ((hb2.mono hb1.size).trans (hb3.mono (Nat.le_trans hb1.size hb2.size))))
    clear hb1 hb2 hb3 hA hA1 hA2 hi
    have e1 : (costs wide l bl != bc) = false := by rw [P1']; simp
    have e2 : decide (costs wide l gl < bc) = false := by simp; omega
    have E1 := Lib.hid e1
    have E2 := Lib.hid e2
    have E3 := Lib.hid P3o
    clear P1' P2' P3g e1 e2 P3o
    go_wp2_with fail
    refine (costs_any wide A B n c _ d l bl w3 w3.heap.size hA3 hi1' (by omega) hw2 (by omega) hnc HL.out (by omega)).mono ?_
    rintro e w4 ⟨rfl, rfl⟩
    have e1 := E1.out
    go_wp2_with fail
    refine (costs_any wide A B2 n c _ d2 l gl w3 w3.heap.size hA3 hi2 (by omega) hw2 (by omega) hnc HL.out (by omega)).mono ?_
    rintro e w4 ⟨rfl, rfl⟩
    have e2 := E2.out
    go_wp2_with fail
    refine (costs_any wide A A' n c n' c' l l' w3 w3.heap.size hA3 hA3' (by omega) hw2 (by omega) hnc HL.out hm').mono ?_
    rintro e w4 ⟨rfl, rfl⟩
    have e3 := E3.out
    by_cases hneg : costs wide l l' < 0
    · clear e3
      have hneg' : decide (costs wide l l' < 0) = true := by simpa using hneg
      go_wp2_with fail
      go_ret
      exact ⟨rfl, HB.out⟩
    · have hneg' : decide (costs wide l l' < 0) = false := by simpa using hneg
      have hge : decide (bc ≤ costs wide l l') = true := by simp; omega
      clear e3
      go_wp2_with fail
      go_ret
      exact ⟨rfl, HB.out⟩
  · have hev := Lib.hid (err_ne hk)
    go_enter Try.func3, Try.ntmps3
    go_wp2_with fail
    refine (fact_any _).mono ?_
    rintro e w1 ⟨rfl, hb1⟩
    go_wp2_with fail
    have hA1 := (hA.below hb1).more (B' := w1.heap.size) hb1.size
    refine (best_no wide A n c l w1 _ hA1 hm hk).mono ?_
    rintro e w2 ⟨rfl, rfl⟩
    rw [hev.out]
    generalize chk wide l = k at *
    clear hk
    go_wp2_with fail
    go_ret
    exact ⟨rfl, hb1⟩
end Go.Proofs.Ytikkcjclhalhgaa
