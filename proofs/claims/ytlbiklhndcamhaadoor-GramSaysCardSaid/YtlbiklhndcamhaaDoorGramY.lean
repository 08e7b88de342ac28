/- The law GramSays: its walk. Condition: errors.errorType reads as the handle of the type error. -/
import Derived.Test.YtlbiklhndcamhaaDoorGramO
import Derived.Test.YtlbiklhndcamhaaDoorGramR
namespace Go.Proofs.YtlbiklhndcamhaaDoor
open Go.RowKit GramM IntWalk
attribute [local go_sem] byte_at str_app

set_option maxRecDepth 100000 in
set_option maxHeartbeats 400000 in
theorem namesR_all (L : List Ru) (s : List UInt8) (w : World) (A : Option Addr) (m c : Nat) (hR : Rules w w.heap.size A m L) (hm : m ≤ 10) (hok : L.all okR = true) (hs : s.length ≤ 24) :
    Calls Tryd.prog 8 #[.slice A m c, S s] w fun e w' => e = .returned (S (nms L s)) ∧ Below w.heap.size w w' := by
  by_cases h0 : s = []
  · subst h0
    have HN := Lib.hid (nms_nil L)
    generalize nms L [] = T at *
    clear hR hok
    go_enter Tryd.func8, Tryd.ntmps8
    go_wp2_with fail
    go_ret
    exact ⟨by rw [HN.out]; rfl, Below.refl _ _⟩
  · have : 0 < s.length := List.length_pos_iff.2 h0
    exact namesR_any L s w A m c hR hm hok (by omega) hs
theorem chk_ten {L : List Ru} (h : chk L = 0) : L.length ≤ 10 ∧ L.all okR = true := by
  unfold chk at h
  by_cases h1 : 10 < L.length
  · rw [if_pos h1] at h; cases h
  · rw [if_neg h1] at h
    refine ⟨by omega, ?_⟩
    by_cases h2 : L.all okR = true
    · exact h2
    · rw [if_neg h2] at h; cases h

set_option maxRecDepth 100000 in
set_option maxHeartbeats 4000000 in
theorem gramSays_walk (L : List Ru) (s : List UInt8) (w : World) (A : Option Addr) (m c : Nat) (hm : m ≤ 9223372036854775807) (hs9 : s.length ≤ 9223372036854775807) (hR : Rules w w.heap.size A m L) (hg : HG w) :
    Calls Tryd.prog 3 #[.slice A m c, S s] w fun e w' => e = .returned (.bool true) ∧ Below w.heap.size w w' := by
  have hLm := hR.1
  have HR := Lib.hid hR; have HG0 := Lib.hid hg
  clear hR hg
  have HRR := Lib.hid (fun W (h : Rules W W.heap.size A m L) => rulesR_any L W A m c hm h)
  have HCK := Lib.hid (fun W (h : Rules W W.heap.size A m L) => check_any L W A m c hm h)
  by_cases hc : chk L = 0
  · have HC0 := Lib.hid hc
    obtain ⟨h10, hok⟩ := chk_ten hc
    rw [hc] at HRR HCK
    rw [show errV 0 = .nilIface from rfl] at HCK
    by_cases h24 : s.length ≤ 24
    · have HNR := Lib.hid (fun W (h : Rules W W.heap.size A m L) => namesR_all L s W A m c h (by omega) hok h24)
      have g24 : ¬ (24 : Int) < (s.length : Int) := by omega
      clear hc hok
      go_enter Tryd.func3, Tryd.ntmps3
      go_wp2_with fail
      refine (HRR.out _ HR.out).mono ?_
      rintro e w1 ⟨rfl, hb1⟩
      have HB1 := Lib.hid hb1
      have HR1 := Lib.hid (HR.out.grow hb1)
      clear hb1
      go_wp2_with fail
      refine (HCK.out _ HR1.out).mono ?_
      rintro e w2 ⟨rfl, hb2⟩
      have HB2 := Lib.hid (HB1.out.trans (hb2.mono HB1.out.size))
      have HR2 := Lib.hid (HR1.out.grow hb2)
      clear hb2 HB1 HR1
      go_wp2_with fail
      have he2 := error_any 0 0 w2 (HG0.out.below HB2.out (Nat.le_refl _))
      rw [show errV 0 = .nilIface from rfl, beq_self_eq_true] at he2
      refine he2.mono ?_
      clear he2
      rintro e w3 ⟨rfl, hb3⟩
      have HB3 := Lib.hid (HB2.out.trans (hb3.mono HB2.out.size))
      have HR3 := Lib.hid (HR2.out.grow hb3)
      clear hb3 HB2 HR2
      go_wp2_with fail
      refine (HNR.out _ HR3.out).mono ?_
      rintro e w4 ⟨rfl, hb4⟩
      have HB4 := Lib.hid (HB3.out.trans (hb4.mono HB3.out.size))
      have HR4 := Lib.hid (HR3.out.grow hb4)
      clear hb4 HB3 HR3
      have hTl := nms_len L s
      have HNM := Lib.hid (fun W (h : Rules W W.heap.size A m L) => Names_ok L s W A m c hm h HC0.out (by omega))
      have HHS := Lib.hid (fun W (h : Rules W W.heap.size A m L) => Has_ok L s W A m c hm h HC0.out (by omega))
      generalize nms L s = T at *
      go_wp2_with fail
      go_loopg [8, 9] T.length (fun f bv iv wr => ∃ i : Nat, i + f = T.length ∧ iv = .int .i64 (i : Int) ∧ bv = .bool (hasB (T.take i) 83) ∧ w4 = wr)
      case atStart => exact ⟨0, by omega, rfl, rfl, rfl⟩
      case round =>
        obtain ⟨i, hif, rfl, rfl, rfl⟩ := hrel
        by_cases hi : i < T.length
        · obtain ⟨f, rfl⟩ : ∃ f, gk = f + 1 := ⟨gk - 1, by omega⟩
          have hst := hasB_take hi 83
          have f1 : IntKind.i64.wrap ((i : Int) + 1) = (i : Int) + 1 := i64_in _ (by omega)
          have f2 : (i : Int) < (T.length : Int) := by omega
          generalize hasB (T.take i) 83 = bb at *
          by_cases hb : bu T i = 83
          · rw [show (bu T i == 83) = true by simpa using hb, Bool.or_true] at hst
            have HST := Lib.hid hst
            have q1 : (bu T i).toNat = 83 := by rw [hb]; rfl
            have q2 : ((bu T i).toNat : Int) = 83 := by omega
            clear hst hb
            cases bb
            all_goals
              go_wp2_with fail
              go_roundg f
              case measure => omega
              case rel => exact ⟨i + 1, by omega, by simp, by rw [HST.out], rfl⟩
          · rw [show (bu T i == 83) = false by simpa using hb, Bool.or_false] at hst
            have HST := Lib.hid hst
            have q1 : ¬ (bu T i).toNat = 83 := fun h => hb (UInt8.toNat_inj.1 h)
            have q2 : ¬ ((bu T i).toNat : Int) = 83 := by omega
            have q3 : ((bu T i).toNat == 83) = false := by simpa using q1
            have q4 : (((bu T i).toNat : Int) == 83) = false := by simpa using q2
            clear hst hb
            cases bb
            all_goals
              go_wp2_with fail
              go_roundg f
              case measure => omega
              case rel => exact ⟨i + 1, by omega, by simp, by rw [HST.out], rfl⟩
        · obtain rfl : i = T.length := by omega
          rw [List.take_length]
          generalize hasB T 83 = hv at *
          go_wp2_with fail
          refine (HNM.out _ HR4.out).mono ?_
          rintro e w5 ⟨rfl, hb5⟩
          have HB5 := Lib.hid (HB4.out.trans (hb5.mono HB4.out.size))
          have HR5 := Lib.hid (HR4.out.grow hb5)
          clear hb5 HB4 HR4
          go_wp2_with fail
          have he5 := error_any 0 0 w5 (HG0.out.below HB5.out (Nat.le_refl _))
          rw [show errV 0 = .nilIface from rfl, beq_self_eq_true] at he5
          refine he5.mono ?_
          rintro e w6 ⟨rfl, hb6⟩
          have HB6 := Lib.hid (HB5.out.trans (hb6.mono HB5.out.size))
          have HR6 := Lib.hid (HR5.out.grow hb6)
          clear hb6 HB5 HR5 he5
          go_wp2_with fail
          refine (HHS.out _ HR6.out).mono ?_
          rintro e w7 ⟨rfl, hb7⟩
          have HB7 := Lib.hid (HB6.out.trans (hb7.mono HB6.out.size))
          clear hb7 HB6 HR6
          go_wp2_with fail
          have he7 := error_any 0 0 w7 (HG0.out.below HB7.out (Nat.le_refl _))
          rw [show errV 0 = .nilIface from rfl, beq_self_eq_true] at he7
          refine he7.mono ?_
          rintro e w8 ⟨rfl, hb8⟩
          have HB8 := Lib.hid (HB7.out.trans (hb8.mono HB7.out.size))
          clear hb8 HB7 he7
          go_wp2_with fail
          go_ret
          exact ⟨by simp, HB8.out⟩
    · have HNM := Lib.hid (fun W (h : Rules W W.heap.size A m L) => show Calls Tryd.prog 9 #[.slice A m c, S s] W fun e w' => e = .returned (.tuple #[S [], errV 4]) ∧ Below W.heap.size W w' by rw [err_ne (by decide)]; exact Names_long L s W A m c hm h hc (by omega))
      have HKN := Lib.hid (show (4 : Int) ≠ 0 by decide)
      have g24 : (24 : Int) < (s.length : Int) := by omega
      clear hc hok
      go_enter Tryd.func3, Tryd.ntmps3
      go_wp2_with fail
      refine (HRR.out _ HR.out).mono ?_
      rintro e w1 ⟨rfl, hb1⟩
      have HB1 := Lib.hid hb1
      have HR1 := Lib.hid (HR.out.grow hb1)
      clear hb1
      go_wp2_with fail
      refine (HCK.out _ HR1.out).mono ?_
      rintro e w2 ⟨rfl, hb2⟩
      have HB2 := Lib.hid (HB1.out.trans (hb2.mono HB1.out.size))
      have HR2 := Lib.hid (HR1.out.grow hb2)
      clear hb2 HB1 HR1
      go_wp2_with fail
      have he2 := error_any 0 0 w2 (HG0.out.below HB2.out (Nat.le_refl _))
      rw [show errV 0 = .nilIface from rfl, beq_self_eq_true] at he2
      refine he2.mono ?_
      clear he2
      rintro e w3 ⟨rfl, hb3⟩
      have HB3 := Lib.hid (HB2.out.trans (hb3.mono HB2.out.size))
      have HR3 := Lib.hid (HR2.out.grow hb3)
      clear hb3 HB2 HR2
      go_wp2_with fail
      go_loopg [8, 9] 0 (fun f bv iv wr => iv = .int .i64 0 ∧ bv = .bool false ∧ w3 = wr)
      case atStart => exact ⟨rfl, rfl, rfl⟩
      case round =>
        obtain ⟨rfl, rfl, rfl⟩ := hrel
        go_wp2_with fail
        refine (HNM.out _ HR3.out).mono ?_
        rintro e w4 ⟨rfl, hb4⟩
        have HB4 := Lib.hid (HB3.out.trans (hb4.mono HB3.out.size))
        have HR4 := Lib.hid (HR3.out.grow hb4)
        clear hb4 HB3 HR3
        go_wp2_with fail
        refine (error_any 4 4 w4 (HG0.out.below HB4.out (Nat.le_refl _))).mono ?_
        rw [beq_self_eq_true]
        rintro e w5 ⟨rfl, hb5⟩
        have HB5 := Lib.hid (HB4.out.trans (hb5.mono HB4.out.size))
        have HR5 := Lib.hid (HR4.out.grow hb5)
        clear hb5 HB4 HR4
        go_wp2_with fail
        refine (Has_no 4 HKN.out s w5 A m c (HNM.out _ HR5.out)).mono ?_
        rintro e w6 ⟨rfl, hb6⟩
        have HB6 := Lib.hid (HB5.out.trans (hb6.mono HB5.out.size))
        clear hb6 HB5 HR5
        go_wp2_with fail
        refine (error_any 4 4 w6 (HG0.out.below HB6.out (Nat.le_refl _))).mono ?_
        rw [beq_self_eq_true]
        rintro e w7 ⟨rfl, hb7⟩
        have HB7 := Lib.hid (HB6.out.trans (hb7.mono HB6.out.size))
        clear hb7 HB6
        go_wp2_with fail
        go_ret
        exact ⟨rfl, HB7.out⟩
  · have HNM := Lib.hid (fun W (h : Rules W W.heap.size A m L) => Names_err L s W A m c hm h hc)
    have HKN := Lib.hid hc
    clear hc
    generalize chk L = e0 at *
    have k0 : (e0 == 0) = false := by simpa using HKN.out
    have k1 : ¬ e0 = 0 := HKN.out
    go_enter Tryd.func3, Tryd.ntmps3
    go_wp2_with fail
    refine (HRR.out _ HR.out).mono ?_
    rintro e w1 ⟨rfl, hb1⟩
    have HB1 := Lib.hid hb1
    have HR1 := Lib.hid (HR.out.grow hb1)
    clear hb1
    go_wp2_with fail
    refine (HCK.out _ HR1.out).mono ?_
    rintro e w2 ⟨rfl, hb2⟩
    have HB2 := Lib.hid (HB1.out.trans (hb2.mono HB1.out.size))
    have HR2 := Lib.hid (HR1.out.grow hb2)
    clear hb2 HB1 HR1
    go_wp2_with fail
    refine (error_any e0 e0 w2 (HG0.out.below HB2.out (Nat.le_refl _))).mono ?_
    rw [beq_self_eq_true]
    rintro e w3 ⟨rfl, hb3⟩
    have HB3 := Lib.hid (HB2.out.trans (hb3.mono HB2.out.size))
    have HR3 := Lib.hid (HR2.out.grow hb3)
    clear hb3 HB2 HR2
    go_wp2_with fail
    go_loopg [8, 9] 0 (fun f bv iv wr => iv = .int .i64 0 ∧ bv = .bool false ∧ w3 = wr)
    case atStart => exact ⟨rfl, rfl, rfl⟩
    case round =>
      obtain ⟨rfl, rfl, rfl⟩ := hrel
      go_wp2_with fail
      refine (HNM.out _ HR3.out).mono ?_
      rintro e w4 ⟨rfl, hb4⟩
      have HB4 := Lib.hid (HB3.out.trans (hb4.mono HB3.out.size))
      have HR4 := Lib.hid (HR3.out.grow hb4)
      clear hb4 HB3 HR3
      go_wp2_with fail
      refine (error_any e0 e0 w4 (HG0.out.below HB4.out (Nat.le_refl _))).mono ?_
      rw [beq_self_eq_true]
      rintro e w5 ⟨rfl, hb5⟩
      have HB5 := Lib.hid (HB4.out.trans (hb5.mono HB4.out.size))
      have HR5 := Lib.hid (HR4.out.grow hb5)
      clear hb5 HB4 HR4
      go_wp2_with fail
      refine (Has_no e0 HKN.out s w5 A m c (HNM.out _ HR5.out)).mono ?_
      rintro e w6 ⟨rfl, hb6⟩
      have HB6 := Lib.hid (HB5.out.trans (hb6.mono HB5.out.size))
      clear hb6 HB5 HR5
      go_wp2_with fail
      refine (error_any e0 e0 w6 (HG0.out.below HB6.out (Nat.le_refl _))).mono ?_
      rw [beq_self_eq_true]
      rintro e w7 ⟨rfl, hb7⟩
      have HB7 := Lib.hid (HB6.out.trans (hb7.mono HB6.out.size))
      clear hb7 HB6
      go_wp2_with fail
      go_ret
      exact ⟨rfl, HB7.out⟩
end Go.Proofs.YtlbiklhndcamhaaDoor
