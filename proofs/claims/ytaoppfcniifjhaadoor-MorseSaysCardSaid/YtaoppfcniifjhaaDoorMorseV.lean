/- What the program and the document find alike, and the law's 'in'. -/
import Derived.Test.YtaoppfcniifjhaaDoorMorseS
namespace Go.Proofs.YtaoppfcniifjhaaDoor
open Go.RowKit MorseM IntWalk

set_option maxHeartbeats 400000 in
theorem in_any (n lo hi : Int) (w : World) :
    Calls Tryd.prog 4 #[.int .i64 n, .int .i64 lo, .int .i64 hi] w fun e w' => e = .returned (.bool (decide (lo ≤ n ∧ n ≤ hi))) ∧ w = w' := by
  by_cases h1 : lo ≤ n
  · by_cases h2 : n ≤ hi
    all_goals
      go_enter Tryd.func4, Tryd.ntmps4
      go_wp2
      go_ret
      exact ⟨by simp [h1, h2], rfl⟩
  · go_enter Tryd.func4, Tryd.ntmps4
    go_wp2
    go_ret
    exact ⟨ret_bool (by simp [show ¬ lo ≤ n from by omega]), rfl⟩
theorem in_yes (n lo hi : Int) (w : World) (h : lo ≤ n ∧ n ≤ hi) :
    Calls Tryd.prog 4 #[.int .i64 n, .int .i64 lo, .int .i64 hi] w fun e w' => e = .returned (.bool true) ∧ w = w' :=
  (in_any n lo hi w).mono fun e w' ⟨he, hw⟩ => ⟨by rw [he, decide_eq_true h], hw⟩
theorem in_no (n lo hi : Int) (w : World) (h : ¬ (lo ≤ n ∧ n ≤ hi)) :
    Calls Tryd.prog 4 #[.int .i64 n, .int .i64 lo, .int .i64 hi] w fun e w' => e = .returned (.bool false) ∧ w = w' :=
  (in_any n lo hi w).mono fun e w' ⟨he, hw⟩ => ⟨by rw [he, decide_eq_false h], hw⟩

theorem twice_both0 (l : List UInt8) (hl : l.length ≤ 200) : ∃ a b : Int,
    (∀ w, Calls Tryd.prog 8 #[S l, .bool false] w fun e w' => e = .returned (.tuple #[.int .i64 a, .int .i64 b]) ∧ ∃ q, w' = w.drewN q) ∧
    (∀ w, Calls Tryd.prog 9 #[S l] w fun e w' => e = .returned (.tuple #[.int .i64 a, .int .i64 b, .nilIface]) ∧ Below w.heap.size w w') := by
  by_cases hT : ∃ a b, FoundAt 0 l a b
  · obtain ⟨a, b, hab⟩ := hT
    exact ⟨(a : Int), (b : Int), fun w => refTwice0_known l w hl a b hab, fun w => twice_known l w hl a b hab⟩
  · have hN : NoneAt 0 l := fun j hj k h1 h3 => by
      cases hr : rep 0 (l.drop j) k with
      | false => rfl
      | true => exact (hT (exists_found hj h1 h3 hr)).elim
    exact ⟨-1, 0, fun w => refTwice0_unknown l w hl hN, fun w => twice_unknown l w hl hN⟩
theorem twice_both1 (l : List UInt8) (hl : l.length ≤ 200) : ∃ a b : Int,
    (∀ w, Calls Tryd.prog 8 #[S l, .bool true] w fun e w' => e = .returned (.tuple #[.int .i64 a, .int .i64 b]) ∧ ∃ q, w' = w.drewN q) ∧
    (∀ w, Calls Tryd.prog 10 #[S l] w fun e w' => e = .returned (.tuple #[.int .i64 a, .int .i64 b, .nilIface]) ∧ Below w.heap.size w w') := by
  by_cases hT : ∃ a b, FoundAt 1 l a b
  · obtain ⟨a, b, hab⟩ := hT
    exact ⟨(a : Int), (b : Int), fun w => refTwice1_known l w hl a b hab, fun w => over_known l w hl a b hab⟩
  · have hN : NoneAt 1 l := fun j hj k h1 h3 => by
      cases hr : rep 1 (l.drop j) k with
      | false => rfl
      | true => exact (hT (exists_found hj h1 h3 hr)).elim
    exact ⟨-1, 0, fun w => refTwice1_unknown l w hl hN, fun w => over_unknown l w hl hN⟩
end Go.Proofs.YtaoppfcniifjhaaDoor
