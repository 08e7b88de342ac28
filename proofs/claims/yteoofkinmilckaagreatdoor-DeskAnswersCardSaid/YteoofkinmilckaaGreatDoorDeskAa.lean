/- The document's called, Word, Begins, Stands: their walks. No condition. -/
import Derived.Test.YteoofkinmilckaaGreatDoorDeskV
namespace Go.Proofs.YteoofkinmilckaaGreatDoor
open Go.RowKit Go.Shelf IntWalk
attribute [local go_sem] byte_at str_app
attribute [local go_sem ↓] Go.wp_at_zero Go.wp_at_succ

set_option maxHeartbeats 1000000 in
theorem called_any (k : Int) (w : World) : Calls Tryz.prog 62 #[.int .i64 k] w fun e w' => e = .returned (S (toldM k)) ∧ w = w' := by
  by_cases hk : k = 0
  · subst hk
    go_enter Tryz.func62, Tryz.ntmps62
    go_wp2_with fail
    go_ret
    exact ⟨rfl, rfl⟩
  · have HT := Lib.hid (show toldM k = errName k from if_neg hk)
    have HNM := Lib.hid (errname_any k w)
    have q1 : (k == 0) = false := by simpa using hk
    clear hk
    go_enter Tryz.func62, Tryz.ntmps62
    go_wp2_with fail
    refine HNM.out.mono ?_
    rintro e w2 ⟨rfl, rfl⟩
    go_wp2_with fail
    go_ret
    exact ⟨by rw [HT.out]; rfl, rfl⟩
set_option maxHeartbeats 1000000 in
theorem wordR_any (t x : List UInt8) (w : World) : Calls Tryz.prog 61 #[S t, S x] w fun e w' => e = .returned (.int .i64 (findE t x)) ∧ w = w' := by
  by_cases h1 : 24 < t.length
  · have HE := Lib.hid (show findE t x = 4 from if_pos (.inl h1))
    have p1 : (24 : Int) < (t.length : Int) := by omega
    go_enter Tryz.func61, Tryz.ntmps61
    go_wp2_with fail
    go_ret
    exact ⟨by rw [HE.out]; rfl, rfl⟩
  have p1 : ¬ (24 : Int) < (t.length : Int) := by omega
  by_cases h2 : 24 < x.length
  · have HE := Lib.hid (show findE t x = 4 from if_pos (.inr h2))
    have p2 : (24 : Int) < (x.length : Int) := by omega
    go_enter Tryz.func61, Tryz.ntmps61
    go_wp2_with fail
    go_ret
    exact ⟨by rw [HE.out]; rfl, rfl⟩
  have p2 : ¬ (24 : Int) < (x.length : Int) := by omega
  by_cases h3 : x = []
  · have HE := Lib.hid (show findE t x = 5 by unfold findE; rw [if_neg (by omega), if_pos h3])
    subst h3
    go_enter Tryz.func61, Tryz.ntmps61
    go_wp2_with fail
    go_ret
    exact ⟨by rw [HE.out]; rfl, rfl⟩
  · have HE := Lib.hid (show findE t x = 0 by unfold findE; rw [if_neg (by omega), if_neg h3])
    have hl := List.length_pos_iff.2 h3
    have p3 : ((x.length : Int) == 0) = false := by rw [beq_eq_false_iff_ne]; omega
    clear h3
    go_enter Tryz.func61, Tryz.ntmps61
    go_wp2_with fail
    go_ret
    exact ⟨by rw [HE.out]; rfl, rfl⟩
def beginsB (s t : List UInt8) : Bool := decide (t.length ≤ s.length ∧ s.take t.length = t)
set_option maxHeartbeats 1000000 in
theorem begins_any (s t : List UInt8) (w : World) : Calls Tryz.prog 83 #[S s, S t] w fun e w' => e = .returned (.bool (beginsB s t)) ∧ w = w' := by
  by_cases h1 : t.length ≤ s.length
  · have p1 : (t.length : Int) ≤ (s.length : Int) := by omega
    have hx := str_to s t.length
    have p2 : (0 : Int) ≤ (t.length : Int) := by omega
    by_cases h2 : s.take t.length = t
    · have HB := Lib.hid (show beginsB s t = true from decide_eq_true ⟨h1, h2⟩)
      rw [h2] at hx
      clear h2
      generalize beginsB s t = b at *
      obtain rfl := HB.out
      go_enter Tryz.func83, Tryz.ntmps83
      go_wp2_with fail
      go_ret
      exact ⟨rfl, rfl⟩
    · have HB := Lib.hid (show beginsB s t = false from decide_eq_false (fun h => h2 h.2))
      generalize s.take t.length = u at *
      have q1 : (u == t) = false := by simpa using h2
      clear h2
      generalize beginsB s t = b at *
      obtain rfl := HB.out
      go_enter Tryz.func83, Tryz.ntmps83
      go_wp2_with fail
      go_ret
      exact ⟨rfl, rfl⟩
  · have p1 : ¬ (t.length : Int) ≤ (s.length : Int) := by omega
    have HB := Lib.hid (show beginsB s t = false from decide_eq_false (fun h => h1 h.1))
    generalize beginsB s t = b at *
    obtain rfl := HB.out
    go_enter Tryz.func83, Tryz.ntmps83
    go_wp2_with fail
    go_ret
    exact ⟨rfl, rfl⟩
/-- The places among the text's first i. -/
def occP (x t : List UInt8) (i : Nat) : List Nat := (List.range i).filter (stands x t)
theorem occP_len (x t : List UInt8) (i : Nat) : (occP x t i).length ≤ i := by
  unfold occP
  refine Nat.le_trans (List.length_filter_le _ _) ?_
  rw [List.length_range]; exact Nat.le_refl _
theorem occP_step (x t : List UInt8) (i : Nat) : occP x t (i + 1) = if beginsB (t.drop i) x = true then occP x t i ++ [i] else occP x t i := by
  unfold occP
  rw [List.range_succ, List.filter_append]
  have e : stands x t i = beginsB (t.drop i) x := rfl
  by_cases h : beginsB (t.drop i) x = true
  · rw [if_pos h]; simp [e, h]
  · rw [if_neg h]
    have h' : beginsB (t.drop i) x = false := by simpa using h
    simp [e, h']
set_option maxRecDepth 100000 in
set_option maxHeartbeats 2000000 in
theorem standsR_any (t x : List UInt8) (w : World) (ht : t.length ≤ 1000) :
    Calls Tryz.prog 64 #[S t, S x] w fun e w' => (∃ A k, e = .returned (.slice A (occ x t).length k)) ∧ Below w.heap.size w w' := by
  obtain ⟨i0, hi, hz0, hz1, hz2⟩ := info_parts info_intF
  have HO : Hid (occ x t = occP x t t.length) := Lib.hid rfl
  generalize occ x t = oc at *
  go_enter Tryz.func64, Tryz.ntmps64
  go_wp2_with fail
  go_loopg [5, 6] t.length (fun f v iv wr => ∃ i : Nat, i + f = t.length ∧ iv = .int .i64 (i : Int) ∧ wr.ownsRow w.heap.size 3 1 v (occP x t i).length ((occP x t i).map fun p : Nat => Value.int .i64 (p : Int)) ∧ Below w.heap.size w wr)
  case atStart => exact ⟨0, by omega, rfl, World.ownsRow_nil _ _ _ _, Below.refl _ _⟩
  case round =>
    obtain ⟨i, hif, rfl, hown, hB⟩ := hrel
    have hst := occP_step x t i
    have hzl := occP_len x t i
    by_cases hlt : i < t.length
    · obtain ⟨f, rfl⟩ : ∃ f, gk = f + 1 := ⟨gk - 1, by omega⟩
      have hx := str_from t i
      have HBG := Lib.hid (fun W => begins_any (t.drop i) x W)
      have HZB := hB.size
      have p1 : (i : Int) < (t.length : Int) := by omega
      have p2 : (0 : Int) ≤ (i : Int) := by omega
      have p3 : (i : Int) ≤ (t.length : Int) := by omega
      have p4 : IntKind.i64.wrap ((i : Int) + 1) = (i : Int) + 1 := i64_in _ (by omega)
      generalize beginsB (t.drop i) x = b at *
      generalize occP x t i = zs at *
      generalize t.drop i = D at *
      have HOWN := Lib.hid hown
      obtain ⟨A1, c1, rfl, hc1⟩ := own_shape hown
      have HB := Lib.hid hB
      clear hown hB
      cases b
      · rw [if_neg (by decide)] at hst
        have HS := Lib.hid hst
        clear hst
        go_wp2_with fail
        refine (HBG.out wr).mono ?_
        rintro e w' ⟨rfl, rfl⟩
        go_wp2_with fail
        go_roundg f
        case measure => omega
        case rel => exact ⟨i + 1, by omega, by simp, by rw [HS.out]; exact HOWN.out, HB.out⟩
      · rw [if_pos rfl] at hst
        have HS := Lib.hid hst
        clear hst
        go_wp2_with fail
        refine (HBG.out wr).mono ?_
        rintro e w' ⟨rfl, rfl⟩
        go_wp2_with (at_builtin; refine wpList_append1 rfl (.tmp 18) (.tmp 20) _ rfl 3 i0 _ Tryz.underlying34 hi hz0 hz1 (by omega) rfl w.heap.size (.slice A1 zs.length c1) (zs.map fun p : Nat => Value.int .i64 (p : Int)) (.int .i64 (i : Int)) rfl rfl rfl (by rw [List.length_map]; exact HOWN.out) (by simp; omega) HZB ?_; intro v' w' hown' hB')
        have hown2 : w'.ownsRow w.heap.size 3 1 v' (occP x t (i + 1)).length ((occP x t (i + 1)).map fun p : Nat => Value.int .i64 (p : Int)) := by rw [HS.out, List.map_append]; simpa using hown'
        have HO2 := Lib.hid hown2; clear hown2 hown'
        have HB2 := Lib.hid (HB.out.trans hB'); clear hB'
        go_wp2_with fail
        go_roundg f
        case measure => omega
        case rel => exact ⟨i + 1, by omega, by simp, HO2.out, HB2.out⟩
    · obtain rfl : i = t.length := by omega
      have p1 : ¬ (t.length : Int) < (t.length : Int) := by omega
      rw [← HO.out] at hown
      obtain ⟨A1, c1, rfl, hc1⟩ := own_shape hown
      have HB := Lib.hid hB
      clear hown hB hst hzl
      go_wp2_with fail
      go_ret
      exact ⟨⟨A1, c1, rfl⟩, HB.out⟩
end Go.Proofs.YteoofkinmilckaaGreatDoor
