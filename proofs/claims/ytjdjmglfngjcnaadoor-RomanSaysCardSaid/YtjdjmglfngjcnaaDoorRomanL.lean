/- The walks over the laws RomanBack, RomanTens. Condition: the variable roman.parts reads as the program's text lays it. -/
import Derived.Test.YtjdjmglfngjcnaaDoorRomanR
import Derived.Test.YtjdjmglfngjcnaaDoorRomanP
import Derived.Test.YtjdjmglfngjcnaaDoorRomanD
namespace Go.Proofs.YtjdjmglfngjcnaaDoor
open Go.RowKit RomanM
attribute [local go_sem] byte_at str_app
attribute [local irreducible] RomanM.wr RomanM.rd RomanM.rOut RomanM.wOut

theorem read_any (l : List UInt8) (w : World) (hl : l.length ≤ 9223372036854775807) (hg : PG w) :
    Calls Tryd.prog 8 #[S l] w fun e w' => Below w.heap.size w w' ∧ ((l.length ≤ 24 ∧ rd l ≠ 0 ∧ e = .returned (.tuple #[.int .i64 (rd l), .nilIface])) ∨ (l.length ≤ 24 ∧ rd l = 0 ∧ e = .returned (.tuple #[.int .i64 0, .iface 37 (.int .i64 2)])) ∨ (24 < l.length ∧ e = .returned (.tuple #[.int .i64 0, .iface 37 (.int .i64 4)]))) := by
  by_cases h : 24 < l.length
  · exact (read_long l w h hl).mono fun e w' ⟨h1, h2⟩ => ⟨h2, .inr (.inr ⟨h, h1⟩)⟩
  · refine (read_short l w (by omega) hg).mono ?_
    rintro e w' ⟨⟨h1, h2⟩ | ⟨h1, h2⟩, h3⟩
    · exact ⟨h3, .inl ⟨by omega, h1, h2⟩⟩
    · exact ⟨h3, .inr (.inl ⟨by omega, h1, h2⟩)⟩

set_option maxRecDepth 100000 in
set_option maxHeartbeats 1000000 in
theorem fact_any (w : World) (hg : PG w) :
    Calls Tryd.prog 6 #[] w fun e w' => e = .returned (.bool true) ∧ Below w.heap.size w w' := by
  have HPG := Lib.hid hg; clear hg
  go_enter Tryd.func6, Tryd.ntmps6
  go_wp2_with fail
  refine (write_ok 1994 w (by omega) HPG.out).mono ?_
  rintro e w1 ⟨rfl, hb1⟩
  rw [fact_w]
  have HB1 := Lib.hid hb1; clear hb1
  go_wp2_with fail
  refine (read_short [88, 76, 73, 73] w1 (by decide) (HPG.out.below HB1.out (Nat.le_refl _))).mono ?_
  rw [fact_r]
  rintro e w2 ⟨⟨_, rfl⟩ | ⟨h0, _⟩, hb2⟩
  · have HB2 := Lib.hid (HB1.out.trans (hb2.mono HB1.out.size)); clear hb2
    go_wp2_with fail
    go_ret
    exact ⟨rfl, HB2.out⟩
  · cases h0

set_option maxRecDepth 100000 in
set_option maxHeartbeats 400000 in
theorem romanBack_walk (n : Int) (l : List UInt8) (w : World) (hl : l.length ≤ 9223372036854775807) (hg : PG w) :
    Calls Tryd.prog 3 #[.int .i64 n, S l] w fun e w' => e = .returned (.bool true) ∧ Below w.heap.size w w' := by
  have HPG := Lib.hid hg; clear hg
  go_enter Tryd.func3, Tryd.ntmps3
  go_wp2_with fail
  refine (fact_any w HPG.out).mono ?_
  rintro e w1 ⟨rfl, hb1⟩
  have HB1 := Lib.hid hb1; clear hb1
  have HPG1 := Lib.hid (HPG.out.below HB1.out (Nat.le_refl _))
  go_wp2_with fail
  by_cases hn : 1 ≤ n ∧ n ≤ 3999
  focus
    refine (write_ok n w1 hn HPG1.out).mono ?_
    rintro e w2 ⟨rfl, hb2⟩
    have HB2 := Lib.hid (HB1.out.trans (hb2.mono HB1.out.size)); clear hb2
    obtain ⟨q1, q2⟩ := back_ hn
    have hn0 : n ≠ 0 := by omega
    obtain ⟨W, hW⟩ : ∃ W, RomanM.wr n = W := ⟨_, rfl⟩
    rw [hW] at q1 q2 ⊢
    have HQ := Lib.hid q1
    have HN := Lib.hid hn0
    clear q1 hn hn0 hW
    go_wp2_with fail
    refine (read_short W w2 (by omega) (HPG.out.below HB2.out (Nat.le_refl _))).mono ?_
    rintro e w3 ⟨⟨h0, rfl⟩ | ⟨h0, _⟩, hb3⟩
    rotate_left
    · exact absurd (HQ.out.symm.trans h0) HN.out
    have HB := Lib.hid (HB2.out.trans (hb3.mono HB2.out.size)); clear hb3 h0
    rw [HQ.out]
    go_wp2_with fail
  rotate_left
  focus
    refine (write_no n w1 hn).mono ?_
    rintro e w2 ⟨rfl, rfl⟩
    have HB := HB1
    clear hn
    go_wp2_with fail
  all_goals
    refine (read_any l _ hl (HPG.out.below HB.out (Nat.le_refl _))).mono ?_
    rintro e w4 ⟨hb4, ⟨_, h0, rfl⟩ | ⟨_, _, rfl⟩ | ⟨_, rfl⟩⟩
    · have HB4 := Lib.hid (HB.out.trans (hb4.mono HB.out.size)); clear hb4
      obtain ⟨q1, q2⟩ := rd_spec h0
      generalize rd l = k at *
      have HQ := Lib.hid q2
      have HK := Lib.hid q1
      clear q1 q2 h0
      go_wp2_with fail
      refine (write_ok k _ HK.out (HPG.out.below HB4.out (Nat.le_refl _))).mono ?_
      rintro e w5 ⟨rfl, hb5⟩
      have HB5 := Lib.hid (HB4.out.trans (hb5.mono HB4.out.size)); clear hb5
      rw [HQ.out]
      go_wp2_with fail
      go_ret
      exact ⟨ret_bool (by simp), HB5.out⟩
    all_goals
      have HB4 := Lib.hid (HB.out.trans (hb4.mono HB.out.size)); clear hb4
      go_wp2_with fail
      go_ret
      exact ⟨ret_bool (by simp), HB4.out⟩
end Go.Proofs.YtjdjmglfngjcnaaDoor
