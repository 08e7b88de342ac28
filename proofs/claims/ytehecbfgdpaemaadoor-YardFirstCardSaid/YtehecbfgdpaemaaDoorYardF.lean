/- The walk over the law YardFirst. Condition: the variable yard.kinds reads as the program's text lays it. -/
import Derived.Test.YtehecbfgdpaemaaDoorYardL
namespace Go.Proofs.YtehecbfgdpaemaaDoor
open Go.RowKit YardM IntWalk
attribute [local go_sem] byte_at str_app

/-- A digit's byte. -/
def dg (n : Nat) : UInt8 := UInt8.ofNat (48 + n)
theorem dg_toNat {n : Nat} (h : n ≤ 9) : (dg n).toNat = 48 + n := by unfold dg; simp; omega
theorem dg_dig {n : Nat} (h : n ≤ 9) : dig (dg n) = true := by unfold dig; rw [dg_toNat h]; exact decide_eq_true (by omega)
theorem ten_ext {n : Nat} (h : n ≤ 9) : (ByteArray.mk #[48, 49, 50, 51, 52, 53, 54, 55, 56, 57]).extract n (n + 1) = ByteArray.mk #[dg n] := by
  obtain rfl | rfl | rfl | rfl | rfl | rfl | rfl | rfl | rfl | rfl : n = 0 ∨ n = 1 ∨ n = 2 ∨ n = 3 ∨ n = 4 ∨ n = 5 ∨ n = 6 ∨ n = 7 ∨ n = 8 ∨ n = 9 := by omega
  all_goals decide
set_option maxHeartbeats 400000 in
theorem digits_any (n : Nat) (h : n ≤ 9) (w : World) :
    Calls Tryd.prog 16 #[.int .i64 (n : Int)] w fun e w' => e = .returned (S [dg n]) ∧ w = w' := by
  have hx := ten_ext h
  go_enter Tryd.func16, Tryd.ntmps16
  go_wp2
  go_ret
  exact ⟨rfl, rfl⟩

theorem ev_dg {n : Nat} (h : n ≤ 9) : (T.d (dg n)).ev = n := by simp only [T.ev, dg_toNat h]; omega
theorem yf1 {a b c : Nat} (ha : a ≤ 9) (hb : b ≤ 9) (hc : c ≤ 9) : valM [dg a, 43, dg b, 42, dg c] = some (a + b * c) := by
  have hw : (T.bi 43 (.d (dg a)) (.bi 42 (.d (dg b)) (.d (dg c)))).wf := ⟨by first | decide | (simp only [T.tr]; decide), dg_dig ha, ⟨by first | decide | (simp only [T.tr]; decide), dg_dig hb, dg_dig hc, by first | decide | (simp only [T.tr]; decide), by first | decide | (simp only [T.tr]; decide)⟩, by first | decide | (simp only [T.tr]; decide), by first | decide | (simp only [T.tr]; decide)⟩
  have h := val_tree hw
  have hm : b * c ≤ 9 * 9 := Nat.mul_le_mul hb hc
  have e : (T.bi 43 (.d (dg a)) (.bi 42 (.d (dg b)) (.d (dg c)))).ev = a + b * c := by
    show doM 43 (T.d (dg a)).ev (doM 42 (T.d (dg b)).ev (T.d (dg c)).ev) = _
    rw [ev_dg ha, ev_dg hb, ev_dg hc]
    show (a + b * c % 9973) % 9973 = _
    omega
  rw [e] at h
  exact h
theorem yf2 {a b c : Nat} (ha : a ≤ 9) (hb : b ≤ 9) (hc : c ≤ 9) : valM [dg a, 42, dg b, 94, dg c] = some (a * pw b c % 9973) := by
  have hw : (T.bi 42 (.d (dg a)) (.bi 94 (.d (dg b)) (.d (dg c)))).wf := ⟨by first | decide | (simp only [T.tr]; decide), dg_dig ha, ⟨by first | decide | (simp only [T.tr]; decide), dg_dig hb, dg_dig hc, by first | decide | (simp only [T.tr]; decide), by first | decide | (simp only [T.tr]; decide)⟩, by first | decide | (simp only [T.tr]; decide), by first | decide | (simp only [T.tr]; decide)⟩
  have h := val_tree hw
  have e : (T.bi 42 (.d (dg a)) (.bi 94 (.d (dg b)) (.d (dg c)))).ev = a * pw b c % 9973 := by
    show doM 42 (T.d (dg a)).ev (doM 94 (T.d (dg b)).ev (T.d (dg c)).ev) = _
    rw [ev_dg ha, ev_dg hb, ev_dg hc]
    rfl
  rw [e] at h
  exact h
theorem yf3 {a b c : Nat} (ha : a ≤ 9) (hb : b ≤ 9) (hc : c ≤ 9) : ∃ r : Nat, valM [dg a, 45, dg b, 45, dg c] = some r ∧ (r : Int) = ((a : Int) - b - c + 9973) % 9973 := by
  have hw : (T.bi 45 (.bi 45 (.d (dg a)) (.d (dg b))) (.d (dg c))).wf := ⟨by first | decide | (simp only [T.tr]; decide), ⟨by first | decide | (simp only [T.tr]; decide), dg_dig ha, dg_dig hb, by first | decide | (simp only [T.tr]; decide), by first | decide | (simp only [T.tr]; decide)⟩, dg_dig hc, by first | decide | (simp only [T.tr]; decide), by first | decide | (simp only [T.tr]; decide)⟩
  have h := val_tree hw
  have e : (T.bi 45 (.bi 45 (.d (dg a)) (.d (dg b))) (.d (dg c))).ev = ((a + 9973 - b) % 9973 + 9973 - c) % 9973 := by
    show doM 45 (doM 45 (T.d (dg a)).ev (T.d (dg b)).ev) (T.d (dg c)).ev = _
    rw [ev_dg ha, ev_dg hb, ev_dg hc]
    rfl
  rw [e] at h
  exact ⟨_, h, by omega⟩
theorem yf4 {a b c : Nat} (ha : a ≤ 9) (hb : b ≤ 9) (hc : c ≤ 9) : ∃ u : Nat, valM [dg a, 94, dg b, 94, dg c] = some u ∧ valM [dg a, 94, 40, dg b, 94, dg c, 41] = some u := by
  have hw : (T.bi 94 (.d (dg a)) (.bi 94 (.d (dg b)) (.d (dg c)))).wf := ⟨by first | decide | (simp only [T.tr]; decide), dg_dig ha, ⟨by first | decide | (simp only [T.tr]; decide), dg_dig hb, dg_dig hc, by first | decide | (simp only [T.tr]; decide), by first | decide | (simp only [T.tr]; decide)⟩, by first | decide | (simp only [T.tr]; decide), by first | decide | (simp only [T.tr]; decide)⟩
  have hw2 : (T.bi 94 (.d (dg a)) (.br (.bi 94 (.d (dg b)) (.d (dg c))))).wf := ⟨by first | decide | (simp only [T.tr]; decide), dg_dig ha, ⟨by first | decide | (simp only [T.tr]; decide), dg_dig hb, dg_dig hc, by first | decide | (simp only [T.tr]; decide), by first | decide | (simp only [T.tr]; decide)⟩, by first | decide | (simp only [T.tr]; decide), by first | decide | (simp only [T.tr]; decide)⟩
  exact ⟨_, val_tree hw, val_tree hw2⟩
theorem yf6 {b c : Nat} (hb : b ≤ 9) (hc : c ≤ 9) : valM [dg b, 94, dg c] = some (pw b c) := by
  have hw : (T.bi 94 (.d (dg b)) (.d (dg c))).wf := ⟨by first | decide | (simp only [T.tr]; decide), dg_dig hb, dg_dig hc, by first | decide | (simp only [T.tr]; decide), by first | decide | (simp only [T.tr]; decide)⟩
  have h := val_tree hw
  have e : (T.bi 94 (.d (dg b)) (.d (dg c))).ev = pw b c := by
    show doM 94 (T.d (dg b)).ev (T.d (dg c)).ev = _
    rw [ev_dg hb, ev_dg hc]
    rfl
  rw [e] at h
  exact h

set_option maxRecDepth 100000 in
set_option maxHeartbeats 4000000 in
theorem yardFirst_walk (a b c : Int) (w : World) (hk : KG w) :
    Calls Tryd.prog 6 #[.int .i64 a, .int .i64 b, .int .i64 c] w fun e w' => e = .returned (.bool true) ∧ Below w.heap.size w w' := by
  have HK := Lib.hid hk
  clear hk
  go_enter Tryd.func6, Tryd.ntmps6
  go_wp2_with fail
  refine (fact_any w HK.out).mono ?_
  rintro e w1 ⟨rfl, hb1⟩
  have HB1 := Lib.hid hb1; clear hb1
  go_wp2_with fail
  by_cases ha : 0 ≤ a ∧ a ≤ 9
  rotate_left
  · refine (in_no ha _).mono ?_
    rintro e w2 ⟨rfl, rfl⟩
    go_wp2_with fail
    go_ret
    exact ⟨rfl, HB1.out⟩
  refine (in_yes ha _).mono ?_
  rintro e w2 ⟨rfl, rfl⟩
  go_wp2_with fail
  by_cases hb : 0 ≤ b ∧ b ≤ 9
  rotate_left
  · refine (in_no hb _).mono ?_
    rintro e w2 ⟨rfl, rfl⟩
    go_wp2_with fail
    go_ret
    exact ⟨rfl, HB1.out⟩
  refine (in_yes hb _).mono ?_
  rintro e w2 ⟨rfl, rfl⟩
  go_wp2_with fail
  by_cases hc : 0 ≤ c ∧ c ≤ 9
  rotate_left
  · refine (in_no hc _).mono ?_
    rintro e w2 ⟨rfl, rfl⟩
    go_wp2_with fail
    go_ret
    exact ⟨rfl, HB1.out⟩
  refine (in_yes hc _).mono ?_
  rintro e w2 ⟨rfl, rfl⟩
  obtain ⟨a, rfl⟩ : ∃ n : Nat, a = n := ⟨a.toNat, by omega⟩
  obtain ⟨b, rfl⟩ : ∃ n : Nat, b = n := ⟨b.toNat, by omega⟩
  obtain ⟨c, rfl⟩ : ∃ n : Nat, c = n := ⟨c.toNat, by omega⟩
  have ha' : a ≤ 9 := by omega
  have hb' : b ≤ 9 := by omega
  have hc' : c ≤ 9 := by omega
  have H1 := Lib.hid (yf1 ha' hb' hc')
  have H2 := Lib.hid (yf2 ha' hb' hc')
  obtain ⟨r, h3, hr⟩ := yf3 ha' hb' hc'
  have H3 := Lib.hid h3
  have HRR := Lib.hid hr
  obtain ⟨u, h4, h5⟩ := yf4 ha' hb' hc'
  have H4 := Lib.hid h4
  have H5 := Lib.hid h5
  have H6 := Lib.hid (yf6 hb' hc')
  have hv : pw b c < 9973 := Nat.mod_lt _ (by decide)
  have hmm : b * c ≤ 9 * 9 := Nat.mul_le_mul hb' hc'
  have hm : (b : Int) * (c : Int) = ((b * c : Nat) : Int) := by rw [Int.natCast_mul]
  have hqq : a * pw b c ≤ 9 * 9973 := Nat.mul_le_mul ha' (by omega)
  have hq : (a : Int) * ((pw b c : Nat) : Int) = ((a * pw b c : Nat) : Int) := by rw [Int.natCast_mul]
  have HM := Lib.hid hm
  have HQ := Lib.hid hq
  clear h3 hr h4 h5 ha hb hc hm hq
  generalize hvv : pw b c = v at *
  clear hvv
  generalize hbc : b * c = m at *
  clear hbc
  generalize hav : a * v = m2 at *
  clear hav
  go_wp2_with fail
  refine (digits_any a ha' _).mono ?_
  rintro e w2 ⟨rfl, rfl⟩
  go_wp2_with fail
  refine (digits_any b hb' _).mono ?_
  rintro e w2 ⟨rfl, rfl⟩
  go_wp2_with fail
  refine (digits_any c hc' _).mono ?_
  rintro e w2 ⟨rfl, rfl⟩
  go_wp2_with fail
  refine (value_some (l := [dg a, 43, dg b, 42, dg c]) w1 (HK.out.below HB1.out (Nat.le_refl _)) (by simp) H1.out).mono ?_
  rintro e w2 ⟨rfl, hb2⟩
  have HB2 := Lib.hid (HB1.out.trans (hb2.mono HB1.out.size)); clear hb2
  go_wp2_with fail
  refine (value_some (l := [dg a, 42, dg b, 94, dg c]) w2 (HK.out.below HB2.out (Nat.le_refl _)) (by simp) H2.out).mono ?_
  rintro e w3 ⟨rfl, hb3⟩
  have HB3 := Lib.hid (HB2.out.trans (hb3.mono HB2.out.size)); clear hb3
  go_wp2_with fail
  refine (value_some (l := [dg a, 45, dg b, 45, dg c]) w3 (HK.out.below HB3.out (Nat.le_refl _)) (by simp) H3.out).mono ?_
  rintro e w4 ⟨rfl, hb4⟩
  have HB4 := Lib.hid (HB3.out.trans (hb4.mono HB3.out.size)); clear hb4
  go_wp2_with fail
  refine (value_some (l := [dg a, 94, dg b, 94, dg c]) w4 (HK.out.below HB4.out (Nat.le_refl _)) (by simp) H4.out).mono ?_
  rintro e w5 ⟨rfl, hb5⟩
  have HB5 := Lib.hid (HB4.out.trans (hb5.mono HB4.out.size)); clear hb5
  go_wp2_with fail
  refine (value_some (l := [dg a, 94, 40, dg b, 94, dg c, 41]) w5 (HK.out.below HB5.out (Nat.le_refl _)) (by simp) H5.out).mono ?_
  rintro e w6 ⟨rfl, hb6⟩
  have HB6 := Lib.hid (HB5.out.trans (hb6.mono HB5.out.size)); clear hb6
  go_wp2_with fail
  refine (value_some (l := [dg b, 94, dg c]) w6 (HK.out.below HB6.out (Nat.le_refl _)) (by simp) H6.out).mono ?_
  rintro e w7 ⟨rfl, hb7⟩
  have HB7 := Lib.hid (HB6.out.trans (hb7.mono HB6.out.size)); clear hb7
  go_wp2_with fail
  refine (in_yes (by omega) _).mono ?_
  rintro e w8 ⟨rfl, rfl⟩
  have e1 : IntKind.i64.wrap ((b : Int) * (c : Int)) = (m : Int) := by rw [HM.out]; exact i64_in _ (by omega)
  have e2 : IntKind.i64.wrap ((a : Int) * (v : Int)) = (m2 : Int) := by rw [HQ.out]; exact i64_in _ (by omega)
  have e3 : IntKind.i64.wrap ((a : Int) + (m : Int)) = (a : Int) + (m : Int) := i64_in _ (by omega)
  have e4 : (((a + m : Nat) : Int) == (a : Int) + (m : Int)) = true := by simp
  have e5 : ((m2 % 9973 : Nat) : Int) = (m2 : Int) % 9973 := by omega
  have e6 : (0 : Int) ≤ (a : Int) - (b : Int) - (c : Int) + 9973 := by omega
  have hm' := HM.out
  have hq' := HQ.out
  have hr : (r : Int) = ((a : Int) - b - c) % 9973 := by have := HRR.out; omega
  go_wp2_with fail
  go_ret
  exact ⟨rfl, HB7.out⟩
end Go.Proofs.YtehecbfgdpaemaaDoor
