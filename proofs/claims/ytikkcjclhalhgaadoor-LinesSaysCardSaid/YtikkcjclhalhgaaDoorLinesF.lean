/- Contracts of lines.Best and lines.Greedy at every input, and the law's closed fact. -/
import Derived.Test.YtikkcjclhalhgaaDoorLinesG
namespace Go.Proofs.YtikkcjclhalhgaaDoor
open Go.RowKit LinesM

theorem chk_zero {wide : Int} {l : List Int} (h : chk wide l = 0) : 1 ≤ wide ∧ wide ≤ 30 ∧ l.length ≤ 20 ∧ ∀ x ∈ l, 1 ≤ x ∧ x ≤ wide := by
  unfold chk at h
  split at h
  · rename_i hw
    split at h
    · simp at h
    · split at h
      · rename_i h2 h3; exact ⟨hw.1, hw.2, by omega, h3⟩
      · simp at h
  · simp at h
def Res (w w' : World) (v : Value) (l : List Int) : Prop := ∃ A c, v = .slice A l.length c ∧ l.length ≤ c ∧ Ints w' w'.heap.size A l.length l ∧ Below w.heap.size w w'
theorem Res.of_own {w w' : World} {base e : Nat} {v : Value} {l : List Int} (h : w'.ownsRow base e 1 v (l.map (Value.int .i64)).length (l.map (Value.int .i64))) (hb : Below w.heap.size w w') : Res w w' v l := by
  obtain ⟨A, c, rfl, hc⟩ := own_shape h
  refine ⟨A, c, by simp, by simpa using hc, ?_, hb⟩
  have := Ints.of_own h
  simpa using this

theorem best_ok (wide : Int) (A : Option Addr) (n c : Nat) (l : List Int) (w : World) (hA : Ints w w.heap.size A n l) (hnc : n ≤ c) (hm : n ≤ 9223372036854775807) (h : chk wide l = 0) :
    Calls Tryd.prog 10 #[.int .i64 wide, .slice A n c] w fun e w' => ∃ v, e = .returned (.tuple #[v, .int .i64 (bestCost wide l), .nilIface]) ∧ Res w w' v (best wide l) := by
  obtain ⟨h1, h2, h3, h4⟩ := chk_zero h
  have hln := hA.1
  refine (best_any wide A n c l w hA (by omega) h2 (by omega) hnc h4 ?_).mono ?_
  · refine (check_any wide A n c l w _ hA hm).mono ?_
    rintro e w' ⟨rfl, rfl⟩
    exact ⟨by rw [h]; rfl, rfl⟩
  · rintro e w' ⟨v, rfl, ho, hb⟩
    exact ⟨v, rfl, Res.of_own (by simpa using ho) hb⟩
theorem greedy_ok (wide : Int) (A : Option Addr) (n c : Nat) (l : List Int) (w : World) (hA : Ints w w.heap.size A n l) (hnc : n ≤ c) (hm : n ≤ 9223372036854775807) (h : chk wide l = 0) :
    Calls Tryd.prog 12 #[.int .i64 wide, .slice A n c] w fun e w' => ∃ v, e = .returned (.tuple #[v, .nilIface]) ∧ Res w w' v (greedy wide l) := by
  obtain ⟨h1, h2, h3, h4⟩ := chk_zero h
  have hln := hA.1
  refine (greedy_any wide A n c l w hA (by omega) h2 (by omega) hnc h4 ?_).mono ?_
  · refine (check_any wide A n c l w _ hA hm).mono ?_
    rintro e w' ⟨rfl, rfl⟩
    exact ⟨by rw [h]; rfl, rfl⟩
  · rintro e w' ⟨v, rfl, ho, hb⟩
    exact ⟨v, rfl, Res.of_own ho hb⟩

set_option maxRecDepth 100000 in
set_option maxHeartbeats 400000 in
theorem best_no (wide : Int) (A : Option Addr) (n c : Nat) (l : List Int) (w : World) (B : Nat) (hA : Ints w B A n l) (hm : n ≤ 9223372036854775807) (h : chk wide l ≠ 0) :
    Calls Tryd.prog 10 #[.int .i64 wide, .slice A n c] w fun e w' => e = .returned (.tuple #[.slice none 0 0, .int .i64 0, errV (chk wide l)]) ∧ w = w' := by
  have hv : errV (chk wide l) = .iface 36 (.int .i64 (chk wide l)) := by unfold errV; rw [if_neg h]
  have hc := check_any wide A n c l w B hA hm
  rw [hv] at hc ⊢
  generalize chk wide l = k at *
  have HC := Lib.hid hc
  clear hc hv h
  go_enter Tryd.func10, Tryd.ntmps10
  go_wp2_with fail
  refine HC.out.mono ?_
  rintro e w' ⟨rfl, rfl⟩
  go_wp2_with fail
  go_ret3
  exact ⟨rfl, rfl⟩
set_option maxHeartbeats 400000 in
theorem greedy_no (wide : Int) (A : Option Addr) (n c : Nat) (l : List Int) (w : World) (B : Nat) (hA : Ints w B A n l) (hm : n ≤ 9223372036854775807) (h : chk wide l ≠ 0) :
    Calls Tryd.prog 12 #[.int .i64 wide, .slice A n c] w fun e w' => e = .returned (.tuple #[.slice none 0 0, errV (chk wide l)]) ∧ w = w' := by
  have hv : errV (chk wide l) = .iface 36 (.int .i64 (chk wide l)) := by unfold errV; rw [if_neg h]
  have hc := check_any wide A n c l w B hA hm
  rw [hv] at hc ⊢
  generalize chk wide l = k at *
  have HC := Lib.hid hc
  clear hc hv h
  go_enter Tryd.func12, Tryd.ntmps12
  go_wp2_with fail
  refine HC.out.mono ?_
  rintro e w' ⟨rfl, rfl⟩
  go_wp2_with fail
  go_ret2
  exact ⟨rfl, rfl⟩

end Go.Proofs.YtikkcjclhalhgaaDoor
