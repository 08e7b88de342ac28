/- The walks over the laws YardBrackets and YardRead. Conditions: the variable yard.kinds (and for the second errors.errorType) reads as the program's text lays it. -/
import Derived.Test.YtehecbfgdpaemaaDoorYardL
namespace Go.Proofs.YtehecbfgdpaemaaDoor
open Go.RowKit YardM IntWalk
attribute [local go_sem] byte_at str_app

theorem br_val {a : List UInt8} {x : Nat} (h : valM a = some x) : valM (40 :: (a ++ [41])) = some x := by
  obtain ⟨t, hw, rfl, rfl⟩ := val_of h
  exact val_tree (t := .br t) hw
theorem bi_val {op : UInt8} {a b : List UInt8} {x y : Nat} (ho : 0 < rk op) (ha : valM a = some x) (hb : valM b = some y) : valM (40 :: (a ++ [41]) ++ op :: (40 :: (b ++ [41]))) = some (doM op x y) := by
  obtain ⟨t, hw, rfl, rfl⟩ := val_of ha
  obtain ⟨u, hu, rfl, rfl⟩ := val_of hb
  have h3 := rk_le op
  exact val_tree (t := .bi op (.br t) (.br u)) ⟨ho, hw, hu, .inl (by simp only [T.tr]; omega), .inl (by simp only [T.tr]; omega)⟩
theorem valM_lt {a : List UInt8} {x : Nat} (h : valM a = some x) : x < 9973 := by
  obtain ⟨t, hw, _, rfl⟩ := val_of h
  exact ev_lt hw
theorem doM_43 (x y : Nat) : doM 43 x y = (x + y) % 9973 := rfl
theorem doM_45 (x y : Nat) : doM 45 x y = (x + 9973 - y) % 9973 := rfl
theorem doM_42 (x y : Nat) : doM 42 x y = x * y % 9973 := rfl

set_option maxRecDepth 100000 in
set_option maxHeartbeats 4000000 in
theorem yardBrackets_walk (a b : List UInt8) (w : World) (ha9 : a.length ≤ 9223372036854775807) (hb9 : b.length ≤ 9223372036854775807) (hk : KG w) :
    Calls Tryd.prog 4 #[S a, S b] w fun e w' => e = .returned (.bool true) ∧ Below w.heap.size w w' := by
  have HK := Lib.hid hk
  clear hk
  go_enter Tryd.func4, Tryd.ntmps4
  go_wp2_with fail
  refine (fact_any w HK.out).mono ?_
  rintro e w1 ⟨rfl, hb1⟩
  have HB1 := Lib.hid hb1; clear hb1
  go_wp2_with fail
  rcases ve_cases a (valM a) with ⟨x, hla, hxa, hva⟩ | ⟨k, hk0, hva, _⟩
  rotate_left
  · refine (value_none w1 (HK.out.below HB1.out (Nat.le_refl _)) hva).mono ?_
    rintro e w2 ⟨rfl, hb2⟩
    have HB2 := Lib.hid (HB1.out.trans (hb2.mono HB1.out.size)); clear hb2 hva hk0
    go_wp2_with fail
    rcases ve_cases b (valM b) with ⟨y, hlb, hxb, hvb⟩ | ⟨k2, hk2, hvb, _⟩
    · refine (value_some w2 (HK.out.below HB2.out (Nat.le_refl _)) hlb hxb).mono ?_
      rintro e w3 ⟨rfl, hb3⟩
      have HB3 := Lib.hid (HB2.out.trans (hb3.mono HB2.out.size)); clear hb3 hxb hvb
      go_wp2_with fail
      go_ret
      exact ⟨rfl, HB3.out⟩
    · refine (value_none w2 (HK.out.below HB2.out (Nat.le_refl _)) hvb).mono ?_
      rintro e w3 ⟨rfl, hb3⟩
      have HB3 := Lib.hid (HB2.out.trans (hb3.mono HB2.out.size)); clear hb3 hvb hk2
      go_wp2_with fail
      go_ret
      exact ⟨rfl, HB3.out⟩
  refine (value_some w1 (HK.out.below HB1.out (Nat.le_refl _)) hla hxa).mono ?_
  rintro e w2 ⟨rfl, hb2⟩
  have HB2 := Lib.hid (HB1.out.trans (hb2.mono HB1.out.size)); clear hb2 hva
  have HXA := Lib.hid hxa
  have hx9 := valM_lt hxa
  clear hxa
  go_wp2_with fail
  rcases ve_cases b (valM b) with ⟨y, hlb, hxb, hvb⟩ | ⟨k2, hk2, hvb, _⟩
  rotate_left
  · refine (value_none w2 (HK.out.below HB2.out (Nat.le_refl _)) hvb).mono ?_
    rintro e w3 ⟨rfl, hb3⟩
    have HB3 := Lib.hid (HB2.out.trans (hb3.mono HB2.out.size)); clear hb3 hvb hk2
    go_wp2_with fail
    go_ret
    exact ⟨rfl, HB3.out⟩
  refine (value_some w2 (HK.out.below HB2.out (Nat.le_refl _)) hlb hxb).mono ?_
  rintro e w3 ⟨rfl, hb3⟩
  have HB3 := Lib.hid (HB2.out.trans (hb3.mono HB2.out.size)); clear hb3 hvb
  have HXB := Lib.hid hxb
  have hy9 := valM_lt hxb
  clear hxb
  go_wp2_with fail
  refine (in_yes (by omega) _).mono ?_
  rintro e w9 ⟨rfl, rfl⟩
  go_wp2_with fail
  refine (in_yes (by omega) _).mono ?_
  rintro e w9 ⟨rfl, rfl⟩
  go_wp2_with fail
  by_cases h22 : a.length ≤ 22
  rotate_left
  · refine (value_none (k := 4) w3 (HK.out.below HB3.out (Nat.le_refl _)) (by unfold ve; rw [if_pos (by simp; omega)])).mono ?_
    rintro e w4 ⟨rfl, hb4⟩
    have HB4 := Lib.hid (HB3.out.trans (hb4.mono HB3.out.size)); clear hb4
    have h19 : (19 : Int) < (a.length : Int) + (b.length : Int) := by omega
    go_wp2_with fail
    go_ret
    exact ⟨rfl, HB4.out⟩
  refine (value_some (x := x) w3 (HK.out.below HB3.out (Nat.le_refl _)) (by simp; omega) (by simpa using br_val HXA.out)).mono ?_
  rintro e w4 ⟨rfl, hb4⟩
  have HB4 := Lib.hid (HB3.out.trans (hb4.mono HB3.out.size)); clear hb4
  by_cases h19 : a.length + b.length ≤ 19
  rotate_left
  · have h19' : (19 : Int) < (a.length : Int) + (b.length : Int) := by omega
    go_wp2_with fail
    go_ret
    exact ⟨rfl, HB4.out⟩
  have h19' : (a.length : Int) + (b.length : Int) ≤ 19 := by omega
  go_wp2_with fail
  have H1 := bi_val (op := 43) (by decide) HXA.out HXB.out
  have H2 := bi_val (op := 42) (by decide) HXA.out HXB.out
  have H3 := bi_val (op := 45) (by decide) HXA.out HXB.out
  rw [doM_43] at H1
  rw [doM_42] at H2
  rw [doM_45] at H3
  have hm : x * y ≤ 9973 * 9973 := Nat.mul_le_mul (by omega) (by omega)
  have hm2 : (x : Int) * (y : Int) = ((x * y : Nat) : Int) := by rw [Int.natCast_mul]
  have HM2 := Lib.hid hm2
  clear hm2
  generalize x * y = m at *
  have H1 := Lib.hid H1; have H2 := Lib.hid H2; have H3 := Lib.hid H3
  obtain ⟨r, hr⟩ : ∃ r : Nat, r = (x + 9973 - y) % 9973 := ⟨_, rfl⟩
  rw [← hr] at H3
  have HRR := Lib.hid hr
  clear hr
  refine (value_some (x := (x + y) % 9973) w4 (HK.out.below HB4.out (Nat.le_refl _)) (by simp; omega) (by simpa using H1.out)).mono ?_
  rintro e w5 ⟨rfl, hb5⟩
  have HB5 := Lib.hid (HB4.out.trans (hb5.mono HB4.out.size)); clear hb5
  go_wp2_with fail
  refine (value_some (x := m % 9973) w5 (HK.out.below HB5.out (Nat.le_refl _)) (by simp; omega) (by simpa using H2.out)).mono ?_
  rintro e w6 ⟨rfl, hb6⟩
  have HB6 := Lib.hid (HB5.out.trans (hb6.mono HB5.out.size)); clear hb6
  go_wp2_with fail
  refine (value_some (x := r) w6 (HK.out.below HB6.out (Nat.le_refl _)) (by simp; omega) (by simpa using H3.out)).mono ?_
  rintro e w7 ⟨rfl, hb7⟩
  have HB7 := Lib.hid (HB6.out.trans (hb7.mono HB6.out.size)); clear hb7
  have e1 : IntKind.i64.wrap ((x : Int) * (y : Int)) = (m : Int) := by rw [HM2.out]; exact i64_in _ (by omega)
  have hm' := HM2.out
  have e2 : (r : Int) = ((x : Int) + 9973 - (y : Int)) % 9973 := by have := HRR.out; omega
  have e3 : (0 : Int) ≤ (x : Int) + 9973 - (y : Int) := by omega
  go_wp2_with fail
  go_ret
  exact ⟨rfl, HB7.out⟩

theorem error_k (k e : Int) (hk : k ≠ 0) (w : World) (hg : HG w) :
    Calls Tryd.prog 19 #[.iface 53 (.int .i64 k), .int .i64 e] w fun r w' => r = .returned (.bool (k == e)) ∧ Below w.heap.size w w' := by
  rw [← err_ne hk]
  exact error_any k e w hg
set_option maxRecDepth 100000 in
set_option maxHeartbeats 4000000 in
theorem yardRead_walk (a b : List UInt8) (w : World) (ha9 : a.length ≤ 9223372036854775807) (hb9 : b.length ≤ 9223372036854775807) (hk : KG w) (hg : HG w) :
    Calls Tryd.prog 8 #[S a, S b] w fun e w' => e = .returned (.bool true) ∧ Below w.heap.size w w' := by
  have HK := Lib.hid hk
  have HGH := Lib.hid hg
  clear hk hg
  go_enter Tryd.func8, Tryd.ntmps8
  go_wp2_with fail
  refine (fact_any w HK.out).mono ?_
  rintro e w1 ⟨rfl, hb1⟩
  have HB1 := Lib.hid hb1; clear hb1
  go_wp2_with fail
  rcases ve_cases a (readM a) with ⟨x, hla, hxa, hva⟩ | ⟨k, hk0, hva, _⟩
  rotate_left
  · refine (read_none w1 (HK.out.below HB1.out (Nat.le_refl _)) hva).mono ?_
    rintro e w2 ⟨rfl, hb2⟩
    have HB2 := Lib.hid (HB1.out.trans (hb2.mono HB1.out.size)); clear hb2 hva hk0
    go_wp2_with fail
    rcases ve_cases b (readM b) with ⟨y, hlb, hxb, hvb⟩ | ⟨k2, hk2, hvb, _⟩
    · refine (read_some w2 (HK.out.below HB2.out (Nat.le_refl _)) hlb hxb).mono ?_
      rintro e w3 ⟨rfl, hb3⟩
      have HB3 := Lib.hid (HB2.out.trans (hb3.mono HB2.out.size)); clear hb3 hxb hvb
      go_wp2_with fail
      go_ret
      exact ⟨rfl, HB3.out⟩
    · refine (read_none w2 (HK.out.below HB2.out (Nat.le_refl _)) hvb).mono ?_
      rintro e w3 ⟨rfl, hb3⟩
      have HB3 := Lib.hid (HB2.out.trans (hb3.mono HB2.out.size)); clear hb3 hvb hk2
      go_wp2_with fail
      go_ret
      exact ⟨rfl, HB3.out⟩
  refine (read_some w1 (HK.out.below HB1.out (Nat.le_refl _)) hla hxa).mono ?_
  rintro e w2 ⟨rfl, hb2⟩
  have HB2 := Lib.hid (HB1.out.trans (hb2.mono HB1.out.size)); clear hb2 hva
  have HXA := Lib.hid hxa
  have hx9 := readM_lt hxa
  clear hxa
  go_wp2_with fail
  rcases ve_cases b (readM b) with ⟨y, hlb, hxb, hvb⟩ | ⟨k2, hk2, hvb, _⟩
  rotate_left
  · refine (read_none w2 (HK.out.below HB2.out (Nat.le_refl _)) hvb).mono ?_
    rintro e w3 ⟨rfl, hb3⟩
    have HB3 := Lib.hid (HB2.out.trans (hb3.mono HB2.out.size)); clear hb3 hvb hk2
    go_wp2_with fail
    go_ret
    exact ⟨rfl, HB3.out⟩
  refine (read_some w2 (HK.out.below HB2.out (Nat.le_refl _)) hlb hxb).mono ?_
  rintro e w3 ⟨rfl, hb3⟩
  have HB3 := Lib.hid (HB2.out.trans (hb3.mono HB2.out.size)); clear hb3 hvb
  have HXB := Lib.hid hxb
  have hy9 := readM_lt hxb
  clear hxb
  go_wp2_with fail
  refine (in_yes (by omega) _).mono ?_
  rintro e w9 ⟨rfl, rfl⟩
  go_wp2_with fail
  refine (in_yes (by omega) _).mono ?_
  rintro e w9 ⟨rfl, rfl⟩
  go_wp2_with fail
  obtain ⟨H1, H0⟩ := read_two HXA.out HXB.out (c := 43) (by decide)
  obtain ⟨H2, _⟩ := read_two HXA.out HXB.out (c := 42) (by decide)
  rw [doM_43] at H1
  rw [doM_42] at H2
  have hm : x * y ≤ 9973 * 9973 := Nat.mul_le_mul (by omega) (by omega)
  have hm2 : (x : Int) * (y : Int) = ((x * y : Nat) : Int) := by rw [Int.natCast_mul]
  have HM2 := Lib.hid hm2
  clear hm2
  generalize x * y = m at *
  have H1 := Lib.hid H1; have H2 := Lib.hid H2; have H0 := Lib.hid H0
  by_cases h23 : a.length + b.length ≤ 23
  · refine (read_some (x := (x + y) % 9973) w3 (HK.out.below HB3.out (Nat.le_refl _)) (by simp; omega) (by simpa using H1.out)).mono ?_
    rintro e w5 ⟨rfl, hb5⟩
    have HB5 := Lib.hid (HB3.out.trans (hb5.mono HB3.out.size)); clear hb5
    go_wp2_with fail
    refine (read_some (x := m % 9973) w5 (HK.out.below HB5.out (Nat.le_refl _)) (by simp; omega) (by simpa using H2.out)).mono ?_
    rintro e w6 ⟨rfl, hb6⟩
    have HB6 := Lib.hid (HB5.out.trans (hb6.mono HB5.out.size)); clear hb6
    go_wp2_with fail
    refine (read_none (k := 2) w6 (HK.out.below HB6.out (Nat.le_refl _)) (by unfold ve; rw [if_neg (by simp; omega), show readM (a ++ b) = none from H0.out])).mono ?_
    rintro e w7 ⟨rfl, hb7⟩
    have HB7 := Lib.hid (HB6.out.trans (hb7.mono HB6.out.size)); clear hb7
    have h23' : (a.length : Int) + (b.length : Int) ≤ 23 := by omega
    have e1 : IntKind.i64.wrap ((x : Int) * (y : Int)) = (m : Int) := by rw [HM2.out]; exact i64_in _ (by omega)
    have hm' := HM2.out
    go_wp2_with fail
    refine (error_k 2 2 (by decide) w7 (HGH.out.below HB7.out (Nat.le_refl _))).mono ?_
    rintro e w8 ⟨rfl, hb8⟩
    have HB8 := Lib.hid (HB7.out.trans (hb8.mono HB7.out.size)); clear hb8
    go_wp2_with fail
    go_ret
    exact ⟨rfl, HB8.out⟩
  · refine (read_none (k := 4) w3 (HK.out.below HB3.out (Nat.le_refl _)) (by unfold ve; rw [if_pos (by simp; omega)])).mono ?_
    rintro e w5 ⟨rfl, hb5⟩
    have HB5 := Lib.hid (HB3.out.trans (hb5.mono HB3.out.size)); clear hb5
    go_wp2_with fail
    refine (read_none (k := 4) w5 (HK.out.below HB5.out (Nat.le_refl _)) (by unfold ve; rw [if_pos (by simp; omega)])).mono ?_
    rintro e w6 ⟨rfl, hb6⟩
    have HB6 := Lib.hid (HB5.out.trans (hb6.mono HB5.out.size)); clear hb6
    go_wp2_with fail
    refine (read_any (a ++ b) w6 (HK.out.below HB6.out (Nat.le_refl _))).mono ?_
    rcases ve_cases (a ++ b) (readM (a ++ b)) with ⟨z, hlz, hz, _⟩ | ⟨k2, hk2, hvb, _⟩
    · rw [H0.out] at hz; cases hz
    rw [hvb]
    unfold veV
    rintro e w7 ⟨rfl, hb7⟩
    have HB7 := Lib.hid (HB6.out.trans (hb7.mono HB6.out.size)); clear hb7 hvb hk2
    have h23' : (23 : Int) < (a.length : Int) + (b.length : Int) := by omega
    go_wp2_with fail
    refine (error_k 4 4 (by decide) w7 (HGH.out.below HB7.out (Nat.le_refl _))).mono ?_
    rintro e w8 ⟨rfl, hb8⟩
    have HB8 := Lib.hid (HB7.out.trans (hb8.mono HB7.out.size)); clear hb8
    go_wp2_with fail
    refine (error_k 4 4 (by decide) w8 (HGH.out.below HB8.out (Nat.le_refl _))).mono ?_
    rintro e w9 ⟨rfl, hb9⟩
    have HB9 := Lib.hid (HB8.out.trans (hb9.mono HB8.out.size)); clear hb9
    go_wp2_with fail
    go_ret
    exact ⟨rfl, HB9.out⟩
end Go.Proofs.YtehecbfgdpaemaaDoor
