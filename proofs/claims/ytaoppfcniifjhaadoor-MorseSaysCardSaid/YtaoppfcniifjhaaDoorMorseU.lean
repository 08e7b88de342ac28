/- The walk over the law MorseSays. Condition: errors.errorType reads as the handle of the type error. -/
import Derived.Test.YtaoppfcniifjhaaDoorMorseS
import Derived.Test.YtaoppfcniifjhaaDoorMorseV
namespace Go.Proofs.YtaoppfcniifjhaaDoor
open Go.RowKit MorseM IntWalk

set_option maxRecDepth 100000 in
set_option maxHeartbeats 1000000 in
theorem morseSays_walk (n : Int) (l : List UInt8) (w : World) (hl : l.length ≤ 9223372036854775807) (hg : HG w) :
    Calls Tryd.prog 3 #[.int .i64 n, S l] w fun e w' => e = .returned (.bool true) ∧ Below w.heap.size w w' := by
  have HGH := Lib.hid hg; clear hg
  go_enter Tryd.func3, Tryd.ntmps3
  go_wp2_with fail
  by_cases hn : 0 ≤ n ∧ n ≤ 200
  focus
    refine (in_yes _ _ _ _ hn).mono ?_
    rintro e w' ⟨rfl, rfl⟩
    obtain ⟨n, rfl⟩ : ∃ m : Nat, n = (m : Int) := ⟨n.toNat, by omega⟩
    have hn2 : n ≤ 200 := by omega
    clear hn
    go_wp2_with fail
    refine (morse_any n w hn2).mono ?_
    rintro e w1 ⟨rfl, hb1⟩
    have HB1 := Lib.hid hb1; clear hb1
    go_wp2_with fail
    refine (word_ok n w1 hn2).mono ?_
    rintro e w2 ⟨rfl, hb2⟩
    have HB2 := Lib.hid (HB1.out.trans (hb2.mono HB1.out.size)); clear hb2 HB1 hn2
    generalize word n = W at *
    go_wp2_with fail
    refine (error_any 0 0 _ (HGH.out.below HB2.out (Nat.le_refl _))).mono ?_
    rintro e w3 ⟨rfl, hb3⟩
    have HB3 := Lib.hid (HB2.out.trans (hb3.mono HB2.out.size)); clear hb3 HB2
  rotate_left
  focus
    refine (in_no _ _ _ _ hn).mono ?_
    rintro e w' ⟨rfl, rfl⟩
    go_wp2_with fail
    refine (word_no n w hn).mono ?_
    rintro e w2 ⟨rfl, rfl⟩
    clear hn
    go_wp2_with fail
    refine (error_any 1 1 _ HGH.out).mono ?_
    rintro e w3 ⟨rfl, hb3⟩
    have HB3 := Lib.hid hb3; clear hb3
  all_goals
    by_cases h2 : 200 < l.length
    · go_wp2_with fail
      refine (twice_no l w3 h2).mono ?_
      rintro e w4 ⟨rfl, hb4⟩
      have HB4 := Lib.hid (HB3.out.trans (hb4.mono HB3.out.size)); clear hb4 HB3
      go_wp2_with fail
      refine (error_any 4 4 _ (HGH.out.below HB4.out (Nat.le_refl _))).mono ?_
      rintro e w5 ⟨rfl, hb5⟩
      have HB5 := Lib.hid (HB4.out.trans (hb5.mono HB4.out.size)); clear hb5 HB4
      go_wp2_with fail
      refine (over_no l w5 h2).mono ?_
      rintro e w6 ⟨rfl, hb6⟩
      have HB6 := Lib.hid (HB5.out.trans (hb6.mono HB5.out.size)); clear hb6 HB5
      clear h2
      go_wp2_with fail
      refine (error_any 4 4 _ (HGH.out.below HB6.out (Nat.le_refl _))).mono ?_
      rintro e w7 ⟨rfl, hb7⟩
      have HB7 := Lib.hid (HB6.out.trans (hb7.mono HB6.out.size)); clear hb7 HB6
      go_wp2_with fail
      go_ret
      exact ⟨ret_bool (by simp), HB7.out⟩
    · have h2 : l.length ≤ 200 := by omega
      obtain ⟨a, b, hR0, hT0⟩ := twice_both0 l h2
      obtain ⟨c, d, hR1, hT1⟩ := twice_both1 l h2
      have HR0 := Lib.hid hR0; have HT0 := Lib.hid hT0; have HR1 := Lib.hid hR1; have HT1 := Lib.hid hT1
      clear hR0 hT0 hR1 hT1
      go_wp2_with fail
      refine (HR0.out w3).mono ?_
      rintro e w4 ⟨rfl, q, rfl⟩
      have HB4 := Lib.hid (show Below w.heap.size w (w3.drewN q) from below_drewN HB3.out q)
      clear HB3
      generalize w3.drewN q = w4 at *
      go_wp2_with fail
      refine (HR1.out w4).mono ?_
      rintro e w5 ⟨rfl, q', rfl⟩
      have HB5 := Lib.hid (show Below w.heap.size w (w4.drewN q') from below_drewN HB4.out q')
      clear HB4
      generalize w4.drewN q' = w5 at *
      go_wp2_with fail
      refine (HT0.out w5).mono ?_
      rintro e w6 ⟨rfl, hb6⟩
      have HB6 := Lib.hid (HB5.out.trans (hb6.mono HB5.out.size)); clear hb6 HB5
      go_wp2_with fail
      refine (error_any 0 0 _ (HGH.out.below HB6.out (Nat.le_refl _))).mono ?_
      rintro e w7 ⟨rfl, hb7⟩
      have HB7 := Lib.hid (HB6.out.trans (hb7.mono HB6.out.size)); clear hb7 HB6
      go_wp2_with fail
      refine (HT1.out w7).mono ?_
      rintro e w8 ⟨rfl, hb8⟩
      have HB8 := Lib.hid (HB7.out.trans (hb8.mono HB7.out.size)); clear hb8 HB7
      go_wp2_with fail
      refine (error_any 0 0 _ (HGH.out.below HB8.out (Nat.le_refl _))).mono ?_
      rintro e w9 ⟨rfl, hb9⟩
      have HB9 := Lib.hid (HB8.out.trans (hb9.mono HB8.out.size)); clear hb9 HB8
      go_wp2_with fail
      go_ret
      exact ⟨ret_bool (by simp), HB9.out⟩
end Go.Proofs.YtaoppfcniifjhaaDoor
