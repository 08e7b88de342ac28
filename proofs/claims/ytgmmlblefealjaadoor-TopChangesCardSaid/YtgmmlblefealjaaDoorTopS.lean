/- The document's Begins, Stands: their walks; of one sign. No condition. -/
import Derived.Test.YtgmmlblefealjaaDoorEdF
namespace Go.Proofs.YtgmmlblefealjaaDoor
open Go.RowKit IntWalk
attribute [local go_sem] byte_at str_app

def beginsB (s t : List UInt8) : Bool := decide (t.length ≤ s.length ∧ s.take t.length = t)
set_option maxHeartbeats 1000000 in
theorem begins_any (s t : List UInt8) (w : World) : Calls Tryd.prog 24 #[S s, S t] w fun e w' => e = .returned (.bool (beginsB s t)) ∧ w = w' := by
  by_cases h1 : t.length ≤ s.length
  · have p1 : (t.length : Int) ≤ (s.length : Int) := by omega
    have hx := str_to s t.length
    have p2 : (0 : Int) ≤ (t.length : Int) := by omega
    by_cases h2 : s.take t.length = t
    · have HB := Lib.hid (show beginsB s t = true from decide_eq_true ⟨h1, h2⟩)
      rw [h2] at hx
      clear h2
      generalize beginsB s t = b at *
      obtain rfl := HB.out
      go_enter Tryd.func24, Tryd.ntmps24
      go_wp2_with fail
      go_ret
      exact ⟨rfl, rfl⟩
    · have HB := Lib.hid (show beginsB s t = false from decide_eq_false (fun h => h2 h.2))
      generalize s.take t.length = u at *
      have q1 : (u == t) = false := by simpa using h2
      clear h2
      generalize beginsB s t = b at *
      obtain rfl := HB.out
      go_enter Tryd.func24, Tryd.ntmps24
      go_wp2_with fail
      go_ret
      exact ⟨rfl, rfl⟩
  · have p1 : ¬ (t.length : Int) ≤ (s.length : Int) := by omega
    have HB := Lib.hid (show beginsB s t = false from decide_eq_false (fun h => h1 h.1))
    generalize beginsB s t = b at *
    obtain rfl := HB.out
    go_enter Tryd.func24, Tryd.ntmps24
    go_wp2_with fail
    go_ret
    exact ⟨rfl, rfl⟩
def standsQ (x t : List UInt8) (i : Nat) : Bool := beginsB (t.drop i) x
/-- The places among the text's first i. -/
def occPQ (x t : List UInt8) (i : Nat) : List Nat := (List.range i).filter (standsQ x t)
def occQ (x t : List UInt8) : List Nat := occPQ x t t.length
theorem occPQ_len (x t : List UInt8) (i : Nat) : (occPQ x t i).length ≤ i := by
  unfold occPQ
  refine Nat.le_trans (List.length_filter_le _ _) ?_
  rw [List.length_range]; exact Nat.le_refl _
theorem occPQ_step (x t : List UInt8) (i : Nat) : occPQ x t (i + 1) = if beginsB (t.drop i) x = true then occPQ x t i ++ [i] else occPQ x t i := by
  unfold occPQ
  rw [List.range_succ, List.filter_append]
  have e : standsQ x t i = beginsB (t.drop i) x := rfl
  by_cases h : beginsB (t.drop i) x = true
  · rw [if_pos h]; simp [e, h]
  · rw [if_neg h]
    have h' : beginsB (t.drop i) x = false := by simpa using h
    simp [e, h']
set_option maxRecDepth 100000 in
set_option maxHeartbeats 2000000 in
theorem standsR_any (t x : List UInt8) (w : World) (ht : t.length ≤ 1000) :
    Calls Tryd.prog 8 #[S t, S x] w fun e w' => (∃ A k, e = .returned (.slice A (occQ x t).length k)) ∧ Below w.heap.size w w' := by
  obtain ⟨i0, hi, hz0, hz1, hz2⟩ := info_parts info_intF
  have HO : Hid (occQ x t = occPQ x t t.length) := Lib.hid rfl
  generalize occQ x t = oc at *
  go_enter Tryd.func8, Tryd.ntmps8
  go_wp2_with fail
  go_loopg [5, 6] t.length (fun f v iv wr => ∃ i : Nat, i + f = t.length ∧ iv = .int .i64 (i : Int) ∧ wr.ownsRow w.heap.size 3 1 v (occPQ x t i).length ((occPQ x t i).map fun p : Nat => Value.int .i64 (p : Int)) ∧ Below w.heap.size w wr)
  case atStart => exact ⟨0, by omega, rfl, World.ownsRow_nil _ _ _ _, Below.refl _ _⟩
  case round =>
    obtain ⟨i, hif, rfl, hown, hB⟩ := hrel
    have hst := occPQ_step x t i
    have hzl := occPQ_len x t i
    by_cases hlt : i < t.length
    · obtain ⟨f, rfl⟩ : ∃ f, gk = f + 1 := ⟨gk - 1, by omega⟩
      have hx := str_from t i
      have HBG := Lib.hid (fun W => begins_any (t.drop i) x W)
      have HZB := hB.size
      have p1 : (i : Int) < (t.length : Int) := by omega
      have p2 : (0 : Int) ≤ (i : Int) := by omega
      have p3 : (i : Int) ≤ (t.length : Int) := by omega
      have p4 : IntKind.i64.wrap ((i : Int) + 1) = (i : Int) + 1 := i64_in _ (by omega)
      generalize beginsB (t.drop i) x = b at *
      generalize occPQ x t i = zs at *
      generalize t.drop i = D at *
      have HOWN := Lib.hid hown
      obtain ⟨A1, c1, rfl, hc1⟩ := own_shape hown
      have HB := Lib.hid hB
      clear hown hB
      cases b
      · rw [if_neg (by decide)] at hst
        have HS := Lib.hid hst
        clear hst
        go_wp2_with fail
        refine (HBG.out wr).mono ?_
        rintro e w' ⟨rfl, rfl⟩
        go_wp2_with fail
        go_roundg f
        case measure => omega
        case rel => exact ⟨i + 1, by omega, by simp, by rw [HS.out]; exact HOWN.out, HB.out⟩
      · rw [if_pos rfl] at hst
        have HS := Lib.hid hst
        clear hst
        go_wp2_with fail
        refine (HBG.out wr).mono ?_
        rintro e w' ⟨rfl, rfl⟩
        go_wp2_with (at_builtin; refine wpList_append1 rfl (.tmp 18) (.tmp 20) _ rfl 3 i0 _ Tryd.underlying28 hi hz0 hz1 (by omega) rfl w.heap.size (.slice A1 zs.length c1) (zs.map fun p : Nat => Value.int .i64 (p : Int)) (.int .i64 (i : Int)) rfl rfl rfl (by rw [List.length_map]; exact HOWN.out) (by simp; omega) HZB ?_; intro v' w' hown' hB')
        have hown2 : w'.ownsRow w.heap.size 3 1 v' (occPQ x t (i + 1)).length ((occPQ x t (i + 1)).map fun p : Nat => Value.int .i64 (p : Int)) := by rw [HS.out, List.map_append]; simpa using hown'
        have HO2 := Lib.hid hown2; clear hown2 hown'
        have HB2 := Lib.hid (HB.out.trans hB'); clear hB'
        go_wp2_with fail
        go_roundg f
        case measure => omega
        case rel => exact ⟨i + 1, by omega, by simp, HO2.out, HB2.out⟩
    · obtain rfl : i = t.length := by omega
      have p1 : ¬ (t.length : Int) < (t.length : Int) := by omega
      rw [← HO.out] at hown
      obtain ⟨A1, c1, rfl, hc1⟩ := own_shape hown
      have HB := Lib.hid hB
      clear hown hB hst hzl
      go_wp2_with fail
      go_ret
      exact ⟨⟨A1, c1, rfl⟩, HB.out⟩
theorem beginsB_one (t : List UInt8) (c : UInt8) (i : Nat) (h : i < t.length) : beginsB (t.drop i) [c] = decide (bu t i = c) := by
  unfold beginsB
  rw [drop_bu h]
  by_cases e : bu t i = c
  · simp [e]
  · simp [e]
theorem occQ_count (t : List UInt8) (c : UInt8) : ∀ i, i ≤ t.length → (occPQ [c] t i).length = (t.take i).count c
  | 0, _ => by simp [occPQ]
  | i + 1, h => by
    have ih := occQ_count t c i (by omega)
    rw [occPQ_step, beginsB_one t c i (by omega), take_succ_bu (by omega), List.count_append]
    by_cases e : bu t i = c
    · simp [e, ih]
    · simp [e, ih]
theorem stands_count (t : List UInt8) (c : UInt8) : (occQ [c] t).length = t.count c := by
  unfold occQ
  rw [occQ_count t c _ (Nat.le_refl _), List.take_length]
end Go.Proofs.YtgmmlblefealjaaDoor
