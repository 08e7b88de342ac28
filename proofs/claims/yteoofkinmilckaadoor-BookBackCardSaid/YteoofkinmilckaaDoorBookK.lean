/- The law BookBack: its walk. Condition: internal/strconv.uint64pow10, errors.errorType read as the library's text lays them. -/
import Derived.Test.YteoofkinmilckaaDoorBookL
import Derived.Test.YteoofkinmilckaaDoorAs
namespace Go.Proofs.YteoofkinmilckaaDoor
open Go.RowKit IntWalk
attribute [local go_sem] byte_at str_app
attribute [local go_sem ↓] Go.wp_at_zero Go.wp_at_succ

theorem in_any (n lo hi : Int) (w : World) :
    Calls Tryd.prog 20 #[.int .i64 n, .int .i64 lo, .int .i64 hi] w fun e w' => e = .returned (.bool (decide (lo ≤ n ∧ n ≤ hi))) ∧ w = w' := by
  by_cases h1 : lo ≤ n
  · by_cases h2 : n ≤ hi
    all_goals
      go_enter Tryd.func20, Tryd.ntmps20
      go_wp2
      go_ret
      exact ⟨by simp [h1, h2], rfl⟩
  · go_enter Tryd.func20, Tryd.ntmps20
    go_wp2
    go_ret
    exact ⟨ret_bool (by simp [show ¬ lo ≤ n from by omega]), rfl⟩
theorem str_mid' (a : List UInt8) (i j : Nat) : (ByteArray.mk a.toArray).extract i j = ByteArray.mk ((a.drop i).take (j - i)).toArray := by
  rw [Lib.extract_eq]
theorem putN_len {now s : List UInt8} {k : Nat} (hk : k ≤ now.length) : (putN now k s).length = now.length + s.length := by
  simp only [putN, List.length_append, List.length_take, List.length_drop]; omega
theorem putN_mid {now s : List UInt8} {k : Nat} (hk : k ≤ now.length) : ((putN now k s).drop k).take s.length = s := by
  have h : (now.take k).length = k := by rw [List.length_take]; omega
  unfold putN
  rw [List.append_assoc, List.drop_append_of_le_length (by omega), List.drop_of_length_le (by omega), List.nil_append, List.take_append_of_le_length (Nat.le_refl _), List.take_length]
theorem cut_put {now s : List UInt8} {k : Nat} (hk : k ≤ now.length) : cutN (putN now k s) k s.length = now := by
  have h : (now.take k).length = k := by rw [List.length_take]; omega
  unfold cutN putN
  rw [List.append_assoc, List.take_append_of_le_length (by omega), List.take_of_length_le (by omega), ← List.drop_drop, List.drop_append_of_le_length (by omega : k ≤ (now.take k).length), List.drop_of_length_le (by omega : (now.take k).length ≤ k), List.nil_append, List.drop_append_of_le_length (Nat.le_refl _), List.drop_length, List.nil_append, List.take_append_drop]

set_option maxRecDepth 100000 in
set_option maxHeartbeats 4000000 in
theorem bookBack_walk (w : World) (A A2 : Option Addr) (n c m c2 : Nat) (L : List Int) (W : List (List UInt8)) (at_ : Int) (s : List UInt8) (ht : TG w) (hg : HG w)
    (hL : Ints w w.heap.size A n L) (hW : Strs w w.heap.size A2 m W) (hW9 : ∀ x ∈ W, x.length ≤ 9223372036854775807) (hs9 : s.length ≤ 9223372036854775807) :
    Calls Tryd.prog 4 #[.slice A n c, .slice A2 m c2, .int .i64 at_, S s] w fun e w' => e = .returned (.bool true) ∧ Below w.heap.size w w' := by
  have HL := Lib.hid hL; have HW := Lib.hid hW; have HW9 := Lib.hid hW9; have HT := Lib.hid ht; have HG0 := Lib.hid hg
  clear hL hW hW9 ht hg
  go_enter Tryd.func4, Tryd.ntmps4
  go_wp2_with fail
  refine (bookFact_any w HT.out).mono ?_
  rintro e w1 ⟨rfl, hb1⟩
  have HB1 := Lib.hid hb1
  have HT1 := Lib.hid (HT.out.below hb1 (Nat.le_refl _))
  have HL1 := Lib.hid ((HL.out.below hb1).more hb1.size)
  have HW1 := Lib.hid ((HW.out.below hb1).more hb1.size)
  have HSZ := Lib.hid hb1.size
  clear hb1
  go_wp2_with fail
  refine (put_all nF w1 A A2 n c m c2 L W HT1.out HL1.out HW1.out HW9.out (fun _ _ h => by cases h)).mono ?_
  rintro e w2 ⟨rfl, hk2, hb2⟩
  have HSM := Lib.hid (stS_small L W (putK n m))
  generalize stS L W (putK n m) = st at *
  have HK2 := Lib.hid hk2
  have HB2 := Lib.hid (HB1.out.trans (hb2.mono HSZ.out))
  have HT2 := Lib.hid (HT1.out.below hb2 (Nat.le_refl _))
  have HZ2 := Lib.hid hb2.size
  have HLT := Lib.hid HT1.out.lt
  clear hk2 hb2 HL1 HW1 HB1 HT1
  generalize w1.heap.size = B at *
  go_wp2_with fail
  refine (now_any _ _ _ _ _ _ _ HK2.out).mono ?_
  rintro e w' ⟨rfl, rfl⟩
  go_wp2_with fail
  refine (put_s nF B B st s at_ w2 HK2.out HT2.out HSM.out hs9 HZ2.out HLT.out).mono ?_
  rintro e w3 ⟨rfl, hb3, hk3⟩
  have HB3 := Lib.hid (HB2.out.trans (hb3.mono HSZ.out))
  have HT3 := Lib.hid (HT2.out.keep hb3 HLT.out)
  have HZ3 := Lib.hid (Nat.le_trans HZ2.out hb3.size)
  have HSM3 := Lib.hid (putS_small HSM.out at_ s)
  by_cases he : putE st.now st.many at_ s = 0
  rotate_left
  · rw [show (putS st at_ s).1 = putE st.now st.many at_ s from rfl, err_ne he]
    rw [show (putS st at_ s).2 = st by unfold putS; simp only [if_neg he]] at hk3
    have HK3 := Lib.hid hk3
    clear he hk3 hb3 HSM3 HK2 HB2
    go_wp2_with fail
    refine (now_any _ _ _ _ _ _ _ HK3.out).mono ?_
    rintro e w' ⟨rfl, rfl⟩
    go_wp2_with fail
    go_ret
    exact ⟨by simp, HB3.out⟩
  have hst : (putS st at_ s).2 = ⟨putN st.now at_.toNat s, st.txt ++ downM (putL at_.toNat s), st.many + 1⟩ := by unfold putS; simp only [if_pos he]
  rw [show (putS st at_ s).1 = putE st.now st.many at_ s from rfl, he, show errV 0 = .nilIface from rfl]
  have hr : 0 ≤ at_ ∧ at_ ≤ st.now.length := by
    unfold putE at he
    by_cases h1 : 0 ≤ at_ ∧ at_ ≤ st.now.length
    · exact h1
    · rw [if_pos h1] at he; cases he
  have hw8 : 1 ≤ s.length ∧ s.length ≤ 8 := by
    unfold putE at he
    rw [if_neg (fun h => h hr)] at he
    by_cases h2 : wordE s = 0
    · exact wordE_len h2
    · rw [if_pos h2] at he; exact absurd he h2
  clear he
  rw [hst] at hk3
  obtain ⟨sm1, sm2, sm3⟩ := HSM.out
  obtain ⟨now, txt, many⟩ := st
  simp only [] at hk3 sm1 sm2 sm3 hr hst
  have HSM4 : Hid (Smalls ⟨putN now at_.toNat s, txt ++ downM (putL at_.toNat s), many + 1⟩) := Lib.hid (by have h := HSM3.out; rw [hst] at h; exact h)
  clear hst HSM3 HSM HK2 HB2 HT2
  obtain ⟨k, rfl⟩ : ∃ n : Nat, at_ = n := ⟨at_.toNat, by omega⟩
  rw [show ((k : Int)).toNat = k by simp] at hk3 HSM4
  have hkl : k ≤ now.length := by omega
  have HK3 := Lib.hid hk3
  clear hk3 hb3
  have hpl := putN_len (now := now) (s := s) hkl
  have HPM := Lib.hid (putN_mid (now := now) (s := s) hkl)
  have HCP := Lib.hid (cut_put (now := now) (s := s) hkl)
  have HDI := Lib.hid (show decide ((0 : Int) ≤ (k : Int) ∧ (k : Int) ≤ (now.length : Int)) = true from decide_eq_true hr)
  have HHR := Lib.hid hr
  have HCE : Hid ((cutS ⟨putN now k s, txt ++ downM (putL k s), many + 1⟩ (k : Int) (s.length : Int)) = (if many + 1 = 60 then ((4 : Int), ⟨putN now k s, txt ++ downM (putL k s), many + 1⟩) else (0, ⟨now, txt ++ downM (putL k s) ++ downM (cutL k s.length), many + 1 + 1⟩))) := Lib.hid (by
    unfold cutS cutE
    rw [if_neg (by rw [hpl]; omega), if_neg (by rw [hpl]; omega)]
    by_cases h6 : many + 1 = 60
    · simp only [if_pos h6, if_neg (by decide : ¬ (4 : Int) = 0)]
    · simp only [if_neg h6, if_pos, Int.toNat_natCast]
      rw [cut_put hkl])
  generalize putN now k s = now2 at *
  generalize downM (putL k s) = D at *
  have HPL := Lib.hid hpl
  clear hr
  have g1 : IntKind.i64.wrap ((now.length : Int) + (s.length : Int)) = (now.length : Int) + (s.length : Int) := i64_in _ (by omega)
  have g2 : ((now2.length : Int) == (now.length : Int) + (s.length : Int)) = true := by rw [hpl]; simp
  have g2' : ((now2.length : Int) = (now.length : Int) + (s.length : Int)) := by rw [hpl]; simp
  have g2'' : ((now2.length : Int) != (now.length : Int) + (s.length : Int)) = false := by rw [hpl]; simp
  have g3 : IntKind.i64.wrap ((k : Int) + (s.length : Int)) = (k : Int) + (s.length : Int) := i64_in _ (by omega)
  have g4 : (0 : Int) ≤ (k : Int) := by omega
  have g5 : (k : Int) + (s.length : Int) ≤ (now2.length : Int) := by rw [hpl]; omega
  have g6 : ((k : Int) + (s.length : Int)).toNat = k + s.length := by omega
  have g7 : (0 : Int) ≤ (k : Int) + (s.length : Int) := by omega
  have g8 : (k : Int) ≤ (k : Int) + (s.length : Int) := by omega
  have hx := str_mid' now2 k (k + s.length)
  rw [Nat.add_sub_cancel_left, HPM.out] at hx
  clear hpl
  go_wp2_with fail
  refine (now_any _ _ _ _ _ _ _ HK3.out).mono ?_
  rintro e w' ⟨rfl, rfl⟩
  go_wp2_with fail
  refine (in_any _ _ _ _).mono ?_
  rintro e w' ⟨rfl, rfl⟩
  rw [HDI.out]
  go_wp2_with fail
  refine (now_any _ _ _ _ _ _ _ HK3.out).mono ?_
  rintro e w' ⟨rfl, rfl⟩
  go_wp2_with fail
  clear hx
  refine (cut_s nF B B ⟨now2, txt ++ D, many + 1⟩ k s.length w3 HK3.out HT3.out HSM4.out HLT.out).mono ?_
  rintro e w4 ⟨rfl, hb4, hk4⟩
  have HB4 := Lib.hid (HB3.out.trans (hb4.mono HSZ.out))
  have HG4 := Lib.hid (HG0.out.below HB4.out (Nat.le_refl _))
  by_cases h6 : many + 1 = 60
  · rw [HCE.out, if_pos h6] at hk4
    rw [HCE.out, if_pos h6]
    have HK4 := Lib.hid hk4
    clear hk4 hb4 h6
    go_wp2_with fail
    refine (error_any 4 4 _ HG4.out).mono ?_
    rintro e w5 ⟨rfl, hb5⟩
    have HK5 := Lib.hid (HK4.out.below hb5)
    have HB5 := Lib.hid (HB4.out.trans (hb5.mono HB4.out.size))
    clear hb5
    rw [show ((4 : Int) == 4) = true from rfl]
    go_wp2_with fail
    refine (now_any _ _ _ _ _ _ _ HK5.out).mono ?_
    rintro e w' ⟨rfl, rfl⟩
    go_wp2_with fail
    go_ret
    exact ⟨rfl, HB5.out⟩
  · rw [HCE.out, if_neg h6] at hk4
    rw [HCE.out, if_neg h6]
    have HK4 := Lib.hid hk4
    clear hk4 hb4 h6
    go_wp2_with fail
    refine (error_any 0 4 _ HG4.out).mono ?_
    rintro e w5 ⟨rfl, hb5⟩
    have HK5 := Lib.hid (HK4.out.below hb5)
    have HB5 := Lib.hid (HB4.out.trans (hb5.mono HB4.out.size))
    clear hb5
    rw [show ((0 : Int) == 4) = false from rfl, show errV 0 = .nilIface from rfl]
    go_wp2_with fail
    refine (now_any _ _ _ _ _ _ _ HK5.out).mono ?_
    rintro e w' ⟨rfl, rfl⟩
    go_wp2_with fail
    go_ret
    exact ⟨by simp, HB5.out⟩
end Go.Proofs.YteoofkinmilckaaDoor
