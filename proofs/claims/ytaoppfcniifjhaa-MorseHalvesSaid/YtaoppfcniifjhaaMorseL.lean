/- The walks over the laws of package morse: the closed fact, and Thue's law. -/
import Derived.Test.YtaoppfcniifjhaaMorseZ
namespace Go.Proofs.Ytaoppfcniifjhaa
open Go.RowKit MorseM IntWalk

theorem found_uniq {d : Nat} {l : List UInt8} {i k i' k' : Nat} (h : FoundAt d l i k) (h' : FoundAt d l i' k') : i = i' ∧ k = k' := by
  have e : i = i' := by
    rcases Nat.lt_trichotomy i i' with hlt | e | hlt
    · have := h'.2.2.2.2.2 i hlt k h.2.1 h.2.2.1; rw [h.2.2.2.1] at this; cases this
    · exact e
    · have := h.2.2.2.2.2 i' hlt k' h'.2.1 h'.2.2.1; rw [h'.2.2.2.1] at this; cases this
  subst e
  refine ⟨rfl, ?_⟩
  rcases Nat.lt_trichotomy k k' with hlt | e | hlt
  · have := h'.2.2.2.2.1 k h.2.1 hlt h.2.2.1; rw [h.2.2.2.1] at this; cases this
  · exact e
  · have := h.2.2.2.2.1 k' h'.2.1 hlt h'.2.2.1; rw [h'.2.2.2.1] at this; cases this
theorem found_none {d : Nat} {l : List UInt8} {i k : Nat} (h : FoundAt d l i k) (h' : NoneAt d l) : False := by
  have := h' i h.1 k h.2.1 h.2.2.1; rw [h.2.2.2.1] at this; cases this
/-- What is found, where it is known. -/
theorem twice_known (l : List UInt8) (w : World) (hl : l.length ≤ 200) (a b : Nat) (hf : FoundAt 0 l a b) :
    Calls Try.prog 10 #[S l] w fun e w' => e = .returned (.tuple #[.int .i64 a, .int .i64 b, .nilIface]) ∧ Below w.heap.size w w' :=
  (twice_ok l w hl).mono fun e w' h => by
    obtain ⟨⟨i, k, hik, rfl⟩ | ⟨hn, _⟩, hb⟩ := h
    · obtain ⟨rfl, rfl⟩ := found_uniq hik hf
      exact ⟨rfl, hb⟩
    · exact (found_none hf hn).elim
theorem over_known (l : List UInt8) (w : World) (hl : l.length ≤ 200) (a b : Nat) (hf : FoundAt 1 l a b) :
    Calls Try.prog 9 #[S l] w fun e w' => e = .returned (.tuple #[.int .i64 a, .int .i64 b, .nilIface]) ∧ Below w.heap.size w w' :=
  (over_ok l w hl).mono fun e w' h => by
    obtain ⟨⟨i, k, hik, rfl⟩ | ⟨hn, _⟩, hb⟩ := h
    · obtain ⟨rfl, rfl⟩ := found_uniq hik hf
      exact ⟨rfl, hb⟩
    · exact (found_none hf hn).elim
theorem twice_unknown (l : List UInt8) (w : World) (hl : l.length ≤ 200) (hf : NoneAt 0 l) :
    Calls Try.prog 10 #[S l] w fun e w' => e = .returned (.tuple #[.int .i64 (-1), .int .i64 0, .nilIface]) ∧ Below w.heap.size w w' :=
  (twice_ok l w hl).mono fun e w' h => by
    obtain ⟨⟨i, k, hik, rfl⟩ | ⟨_, rfl⟩, hb⟩ := h
    · exact (found_none hik hf).elim
    · exact ⟨rfl, hb⟩
theorem over_unknown (l : List UInt8) (w : World) (hl : l.length ≤ 200) (hf : NoneAt 1 l) :
    Calls Try.prog 9 #[S l] w fun e w' => e = .returned (.tuple #[.int .i64 (-1), .int .i64 0, .nilIface]) ∧ Below w.heap.size w w' :=
  (over_ok l w hl).mono fun e w' h => by
    obtain ⟨⟨i, k, hik, rfl⟩ | ⟨_, rfl⟩, hb⟩ := h
    · exact (found_none hik hf).elim
    · exact ⟨rfl, hb⟩
theorem fact_twice : FoundAt 0 [97, 98, 99, 98, 99] 1 2 := by
  refine ⟨by decide, by decide, by decide, by decide, ?_, ?_⟩
  · intro j h1 h2 _
    obtain rfl : j = 1 := by omega
    decide
  · intro j hj k h1 h2
    obtain rfl : j = 0 := by omega
    simp at h2
    obtain rfl | rfl : k = 1 ∨ k = 2 := by omega
    all_goals decide
theorem fact_over : FoundAt 1 [97, 98, 97, 98, 97] 0 2 := by
  refine ⟨by decide, by decide, by decide, by decide, ?_, ?_⟩
  · intro j h1 h2 _
    obtain rfl : j = 1 := by omega
    decide
  · intro j hj; omega
set_option maxRecDepth 100000 in
theorem fact_word : word 8 = [48, 49, 49, 48, 49, 48, 48, 49] := by decide +kernel
theorem word_lit (v : Int) (n : Nat) (hv : v = (n : Int)) (w : World) (h : n ≤ 200) :
    Calls Try.prog 7 #[.int .i64 v] w fun e w' => e = .returned (.tuple #[S (word n), .nilIface]) ∧ Below w.heap.size w w' := by
  subst hv
  exact word_ok n w h
set_option maxRecDepth 100000 in
set_option maxHeartbeats 400000 in
theorem fact_any (w : World) :
    Calls Try.prog 6 #[] w fun e w' => e = .returned (.bool true) ∧ Below w.heap.size w w' := by
  go_enter Try.func6, Try.ntmps6
  go_wp2_with fail
  refine (word_lit 8 8 (by omega) _ (by omega)).mono ?_
  rw [fact_word]
  rintro e w1 ⟨rfl, hb1⟩
  have HB1 := Lib.hid hb1; clear hb1
  go_wp2_with fail
  refine (twice_known [97, 98, 99, 98, 99] w1 (by decide) 1 2 fact_twice).mono ?_
  rintro e w2 ⟨rfl, hb2⟩
  have HB2 := Lib.hid (HB1.out.trans (hb2.mono HB1.out.size)); clear hb2
  go_wp2_with fail
  refine (over_known [97, 98, 97, 98, 97] w2 (by decide) 0 2 fact_over).mono ?_
  rintro e w3 ⟨rfl, hb3⟩
  have HB3 := Lib.hid (HB2.out.trans (hb3.mono HB2.out.size)); clear hb3
  go_wp2_with fail
  go_ret
  exact ⟨rfl, HB3.out⟩

set_option maxHeartbeats 400000 in
theorem in_any (n lo hi : Int) (w : World) :
    Calls Try.prog 8 #[.int .i64 n, .int .i64 lo, .int .i64 hi] w fun e w' => e = .returned (.bool (decide (lo ≤ n ∧ n ≤ hi))) ∧ w = w' := by
  by_cases h1 : lo ≤ n
  · by_cases h2 : n ≤ hi
    all_goals
      go_enter Try.func8, Try.ntmps8
      go_wp2
      go_ret
      exact ⟨by simp [h1, h2], rfl⟩
  · go_enter Try.func8, Try.ntmps8
    go_wp2
    go_ret
    exact ⟨ret_bool (by simp [show ¬ lo ≤ n from by omega]), rfl⟩
theorem in_yes (n lo hi : Int) (w : World) (h : lo ≤ n ∧ n ≤ hi) :
    Calls Try.prog 8 #[.int .i64 n, .int .i64 lo, .int .i64 hi] w fun e w' => e = .returned (.bool true) ∧ w = w' :=
  (in_any n lo hi w).mono fun e w' ⟨he, hw⟩ => ⟨by rw [he, decide_eq_true h], hw⟩
theorem in_no (n lo hi : Int) (w : World) (h : ¬ (lo ≤ n ∧ n ≤ hi)) :
    Calls Try.prog 8 #[.int .i64 n, .int .i64 lo, .int .i64 hi] w fun e w' => e = .returned (.bool false) ∧ w = w' :=
  (in_any n lo hi w).mono fun e w' ⟨he, hw⟩ => ⟨by rw [he, decide_eq_false h], hw⟩

set_option maxRecDepth 100000 in
set_option maxHeartbeats 400000 in
theorem morseThue_walk (n i j : Int) (w : World) :
    Calls Try.prog 3 #[.int .i64 n, .int .i64 i, .int .i64 j] w fun e w' => e = .returned (.bool true) ∧ Below w.heap.size w w' := by
  go_enter Try.func3, Try.ntmps3
  go_wp2_with fail
  refine (fact_any w).mono ?_
  rintro e w1 ⟨rfl, hb1⟩
  have HB1 := Lib.hid hb1; clear hb1
  go_wp2_with fail
  by_cases hn : 0 ≤ n ∧ n ≤ 200
  · obtain ⟨n, rfl⟩ : ∃ m : Nat, n = (m : Int) := ⟨n.toNat, by omega⟩
    have hn2 : n ≤ 200 := by omega
    refine (word_ok n w1 hn2).mono ?_
    rintro e w2 ⟨rfl, hb2⟩
    have HB2 := Lib.hid (HB1.out.trans (hb2.mono HB1.out.size)); clear hb2
    have hwl := word_len n
    have hpt := fun i j => word_part n i j hn2
    generalize word n = W at *
    have hp0 : NoneAt 1 W := by have := hpt 0 W.length; rwa [List.drop_zero, List.take_length] at this
    have HP0 := Lib.hid hp0; clear hp0
    have HPT := Lib.hid hpt; clear hpt
    have hW2 : W.length ≤ 200 := by omega
    have HWL := Lib.hid hwl; clear hwl hn hn2
    go_wp2_with fail
    by_cases c1 : 0 ≤ i ∧ i ≤ (W.length : Int)
    · refine (in_yes _ _ _ _ c1).mono ?_
      rintro e w' ⟨rfl, rfl⟩
      go_wp2_with fail
      by_cases c2 : i ≤ j ∧ j ≤ (W.length : Int)
      · refine (in_yes _ _ _ _ c2).mono ?_
        rintro e w' ⟨rfl, rfl⟩
        obtain ⟨i, rfl⟩ : ∃ m : Nat, i = (m : Int) := ⟨i.toNat, by omega⟩
        obtain ⟨j, rfl⟩ : ∃ m : Nat, j = (m : Int) := ⟨j.toNat, by omega⟩
        have hsm := str_mid W i j
        rw [← List.drop_take] at hsm
        have h1 : i ≤ j := by omega
        have h2 : j ≤ W.length := by omega
        clear c1 c2
        go_wp2_with fail
        refine (over_unknown _ _ ?_ (HPT.out i j)).mono ?_
        · rw [List.length_drop, List.length_take]; omega
        rintro e w3 ⟨rfl, hb3⟩
        have HB3 := Lib.hid (HB2.out.trans (hb3.mono HB2.out.size)); clear hb3
        go_wp2_with fail
        go_ret
        exact ⟨rfl, HB3.out⟩
      · refine (in_no _ _ _ _ c2).mono ?_
        rintro e w' ⟨rfl, rfl⟩
        clear c1 c2
        have hsm : (ByteArray.mk W.toArray).extract 0 W.length = ByteArray.mk W.toArray := by rw [str_to, List.take_length]
        go_wp2_with fail
        refine (over_unknown W _ (by omega) HP0.out).mono ?_
        rintro e w3 ⟨rfl, hb3⟩
        have HB3 := Lib.hid (HB2.out.trans (hb3.mono HB2.out.size)); clear hb3
        go_wp2_with fail
        go_ret
        exact ⟨rfl, HB3.out⟩
    · refine (in_no _ _ _ _ c1).mono ?_
      rintro e w' ⟨rfl, rfl⟩
      clear c1
      have hsm : (ByteArray.mk W.toArray).extract 0 W.length = ByteArray.mk W.toArray := by rw [str_to, List.take_length]
      go_wp2_with fail
      refine (over_unknown W _ (by omega) HP0.out).mono ?_
      rintro e w3 ⟨rfl, hb3⟩
      have HB3 := Lib.hid (HB2.out.trans (hb3.mono HB2.out.size)); clear hb3
      go_wp2_with fail
      go_ret
      exact ⟨rfl, HB3.out⟩
  · refine (word_no n w1 hn).mono ?_
    rintro e w2 ⟨rfl, rfl⟩
    clear hn
    go_wp2_with fail
    go_ret
    exact ⟨rfl, HB1.out⟩
end Go.Proofs.Ytaoppfcniifjhaa
