/- Contracts of lines.Best and lines.Greedy at every input, and the law's closed fact. -/
import Derived.Test.YtikkcjclhalhgaaLinesG
namespace Go.Proofs.Ytikkcjclhalhgaa
open Go.RowKit LinesM

theorem chk_zero {wide : Int} {l : List Int} (h : chk wide l = 0) : 1 ≤ wide ∧ wide ≤ 30 ∧ l.length ≤ 20 ∧ ∀ x ∈ l, 1 ≤ x ∧ x ≤ wide := by
  unfold chk at h
  split at h
  · rename_i hw
    split at h
    · simp at h
    · split at h
      · rename_i h2 h3; exact ⟨hw.1, hw.2, by omega, h3⟩
      · simp at h
  · simp at h
def Res (w w' : World) (v : Value) (l : List Int) : Prop := ∃ A c, v = .slice A l.length c ∧ l.length ≤ c ∧ Ints w' w'.heap.size A l.length l ∧ Below w.heap.size w w'
theorem Res.of_own {w w' : World} {base e : Nat} {v : Value} {l : List Int} (h : w'.ownsRow base e 1 v (l.map (Value.int .i64)).length (l.map (Value.int .i64))) (hb : Below w.heap.size w w') : Res w w' v l := by
  obtain ⟨A, c, rfl, hc⟩ := own_shape h
  refine ⟨A, c, by simp, by simpa using hc, ?_, hb⟩
  have := Ints.of_own h
  simpa using this

theorem best_ok (wide : Int) (A : Option Addr) (n c : Nat) (l : List Int) (w : World) (hA : Ints w w.heap.size A n l) (hnc : n ≤ c) (hm : n ≤ 9223372036854775807) (h : chk wide l = 0) :
    Calls Try.prog 7 #[.int .i64 wide, .slice A n c] w fun e w' => ∃ v, e = .returned (.tuple #[v, .int .i64 (bestCost wide l), .nilIface]) ∧ Res w w' v (best wide l) := by
  obtain ⟨h1, h2, h3, h4⟩ := chk_zero h
  have hln := hA.1
  refine (best_any wide A n c l w hA (by omega) h2 (by omega) hnc h4 ?_).mono ?_
  · refine (check_any wide A n c l w _ hA hm).mono ?_
    rintro e w' ⟨rfl, rfl⟩
    exact ⟨by rw [h]; rfl, rfl⟩
  · rintro e w' ⟨v, rfl, ho, hb⟩
    exact ⟨v, rfl, Res.of_own (by simpa using ho) hb⟩
theorem greedy_ok (wide : Int) (A : Option Addr) (n c : Nat) (l : List Int) (w : World) (hA : Ints w w.heap.size A n l) (hnc : n ≤ c) (hm : n ≤ 9223372036854775807) (h : chk wide l = 0) :
    Calls Try.prog 8 #[.int .i64 wide, .slice A n c] w fun e w' => ∃ v, e = .returned (.tuple #[v, .nilIface]) ∧ Res w w' v (greedy wide l) := by
  obtain ⟨h1, h2, h3, h4⟩ := chk_zero h
  have hln := hA.1
  refine (greedy_any wide A n c l w hA (by omega) h2 (by omega) hnc h4 ?_).mono ?_
  · refine (check_any wide A n c l w _ hA hm).mono ?_
    rintro e w' ⟨rfl, rfl⟩
    exact ⟨by rw [h]; rfl, rfl⟩
  · rintro e w' ⟨v, rfl, ho, hb⟩
    exact ⟨v, rfl, Res.of_own ho hb⟩

set_option maxRecDepth 100000 in
set_option maxHeartbeats 400000 in
theorem best_no (wide : Int) (A : Option Addr) (n c : Nat) (l : List Int) (w : World) (B : Nat) (hA : Ints w B A n l) (hm : n ≤ 9223372036854775807) (h : chk wide l ≠ 0) :
    Calls Try.prog 7 #[.int .i64 wide, .slice A n c] w fun e w' => e = .returned (.tuple #[.slice none 0 0, .int .i64 0, errV (chk wide l)]) ∧ w = w' := by
  have hv : errV (chk wide l) = .iface 37 (.int .i64 (chk wide l)) := by unfold errV; rw [if_neg h]
  have hc := check_any wide A n c l w B hA hm
  rw [hv] at hc ⊢
  generalize chk wide l = k at *
  have HC := Lib.hid hc
  clear hc hv h
  go_enter Try.func7, Try.ntmps7
  go_wp2_with fail
  refine HC.out.mono ?_
  rintro e w' ⟨rfl, rfl⟩
  go_wp2_with fail
  go_ret3
  exact ⟨rfl, rfl⟩
set_option maxHeartbeats 400000 in
theorem greedy_no (wide : Int) (A : Option Addr) (n c : Nat) (l : List Int) (w : World) (B : Nat) (hA : Ints w B A n l) (hm : n ≤ 9223372036854775807) (h : chk wide l ≠ 0) :
    Calls Try.prog 8 #[.int .i64 wide, .slice A n c] w fun e w' => e = .returned (.tuple #[.slice none 0 0, errV (chk wide l)]) ∧ w = w' := by
  have hv : errV (chk wide l) = .iface 37 (.int .i64 (chk wide l)) := by unfold errV; rw [if_neg h]
  have hc := check_any wide A n c l w B hA hm
  rw [hv] at hc ⊢
  generalize chk wide l = k at *
  have HC := Lib.hid hc
  clear hc hv h
  go_enter Try.func8, Try.ntmps8
  go_wp2_with fail
  refine HC.out.mono ?_
  rintro e w' ⟨rfl, rfl⟩
  go_wp2_with fail
  go_ret2
  exact ⟨rfl, rfl⟩

theorem ints_lit4 (w : World) (a b c d : Int) (t : TypeId) : Ints (w.alloc (.cells #[.int .i64 a, .int .i64 b, .int .i64 c, .int .i64 d] t)) (w.heap.size + 1) (some ⟨w.heap.size, 0, none⟩) 4 [a, b, c, d] := by
  refine ⟨rfl, fun _ => ⟨w.heap.size, 0, rfl, by omega, fun j hj => ?_⟩⟩
  rw [World.cell?_alloc_new]
  match j, hj with
  | 0, _ => rfl
  | 1, _ => rfl
  | 2, _ => rfl
  | 3, _ => rfl
theorem ints_lit3 (w : World) (a b c : Int) (t : TypeId) : Ints (w.alloc (.cells #[.int .i64 a, .int .i64 b, .int .i64 c] t)) (w.heap.size + 1) (some ⟨w.heap.size, 0, none⟩) 3 [a, b, c] := by
  refine ⟨rfl, fun _ => ⟨w.heap.size, 0, rfl, by omega, fun j hj => ?_⟩⟩
  rw [World.cell?_alloc_new]
  match j, hj with
  | 0, _ => rfl
  | 1, _ => rfl
  | 2, _ => rfl

theorem fact_best : best 6 [3, 2, 2, 5] = [1, 2, 1] := by decide +kernel
theorem fact_cost : bestCost 6 [3, 2, 2, 5] = 10 := by decide +kernel
theorem fact_greedy : greedy 6 [3, 2, 2, 5] = [2, 1, 1] := by decide +kernel
theorem fact_chk : chk 6 [3, 2, 2, 5] = 0 := by decide +kernel

set_option maxRecDepth 100000 in
set_option maxHeartbeats 1000000 in
theorem fact_any (w : World) :
    Calls Try.prog 6 #[] w fun e w' => e = .returned (.bool true) ∧ Below w.heap.size w w' := by
  go_enter Try.func6, Try.ntmps6
  go_wp2_with fail
  refine (best_ok 6 _ 4 4 _ _ (by simpa using ints_lit4 w 3 2 2 5 _) (by omega) (by omega) fact_chk).mono ?_
  rintro e w1 ⟨v1, rfl, A1, c1, rfl, hc1, hi1, hb1⟩
  rw [fact_best] at hi1 hc1 ⊢
  rw [fact_cost]
  simp only [List.length_cons, List.length_nil, Nat.reduceAdd] at hi1 hc1 ⊢
  have hb1' : Below w.heap.size w w1 := ((Below.refl _ _).alloc (Nat.le_refl _) _).trans (hb1.mono (by simp))
  clear hb1
  go_wp2_with fail
  refine (greedy_ok 6 _ 4 4 _ _ (by simpa using ints_lit4 w1 3 2 2 5 _) (by omega) (by omega) fact_chk).mono ?_
  rintro e w2 ⟨v2, rfl, A2, c2, rfl, hc2, hi2, hb2⟩
  rw [fact_greedy] at hi2 hc2 ⊢
  simp only [List.length_cons, List.length_nil, Nat.reduceAdd] at hi2 hc2 ⊢
  have hb2' : Below w1.heap.size w1 w2 := ((Below.refl _ _).alloc (Nat.le_refl _) _).trans (hb2.mono (by simp))
  have hi1' := (hi1.below hb2').more (B' := w2.heap.size) hb2'.size
  clear hb2 hi1
  go_wp2_with fail
  refine (ints_any _ _ 3 3 _ _ _ _ _ (w2.heap.size + 1) ((hi1'.alloc (Nat.le_refl _) _).more (by omega)) (ints_lit3 w2 1 2 1 _) (by omega) (by omega)).mono ?_
  rintro e w3 ⟨rfl, hb3⟩
  have hb3' : Below w2.heap.size w2 w3 := ((Below.refl _ _).alloc (Nat.le_refl _) _).trans (hb3.mono (by simp))
  have hi2' := (hi2.below hb3').more (B' := w3.heap.size) hb3'.size
  rw [show decide (([1, 2, 1] : List Int) = [1, 2, 1]) = true from rfl]
  clear hb3 hi2
  go_wp2_with fail
  refine (ints_any _ _ 3 3 _ _ _ _ _ (w3.heap.size + 1) ((hi2'.alloc (Nat.le_refl _) _).more (by omega)) (ints_lit3 w3 2 1 1 _) (by omega) (by omega)).mono ?_
  rintro e w4 ⟨rfl, hb4⟩
  rw [show decide (([2, 1, 1] : List Int) = [2, 1, 1]) = true from rfl]
  go_wp2_with fail
  go_ret
  exact ⟨rfl, hb1'.trans ((hb2'.mono hb1'.size).trans ((hb3'.mono (Nat.le_trans hb1'.size hb2'.size)).trans ((((Below.refl _ _).alloc (Nat.le_refl _) _).trans (hb4.mono (by simp))).mono (Nat.le_trans hb1'.size (Nat.le_trans hb2'.size hb3'.size)))))⟩
end Go.Proofs.Ytikkcjclhalhgaa
