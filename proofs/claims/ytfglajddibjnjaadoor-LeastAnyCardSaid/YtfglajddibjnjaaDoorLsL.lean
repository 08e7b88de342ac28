/- LeastAny: nothing shorter is taken, and nothing as short that is less. Condition: the program's one listed variable reads as laid. -/
import Derived.Test.YtfglajddibjnjaaDoorLsX
import Derived.Test.YtfglajddibjnjaaDoorLsZ
import Derived.Test.YtfglajddibjnjaaDoorLsTk
import Derived.Test.YtfglajddibjnjaaDoorLsB
namespace Go.Proofs.YtfglajddibjnjaaDoor
open Go.RowKit IntWalk
set_option linter.unusedSimpArgs false
attribute [local go_sem] byte_at str_app
attribute [local go_sem ↓] Go.wp_at_zero Go.wp_at_succ

set_option maxRecDepth 100000 in
set_option maxHeartbeats 4000000 in
theorem leastAny_walk (M : Mc) (A A2 : Option Addr) (n c m c2 : Nat) (l : List UInt8) (W : World) (hM : MacW W W.heap.size A n A2 m M) (hl : l.length ≤ 9223372036854775807) (hg : HG W) :
    Calls Tryd.prog 4 #[mcv M.sg A n c A2 m c2, S l] W fun e w' => e = .returned (.bool true) ∧ Below W.heap.size W w' := by
  obtain ⟨c0, c1, c2'⟩ := mac_cells W M.sg A n c A2 m c2 25
  have HB := Lib.hid ((Below.refl W.heap.size W).alloc (Nat.le_refl _) (.cells #[S M.sg, .slice A n c, .slice A2 m c2] 25))
  have HC := Lib.hid (And.intro c0 (And.intro c1 c2'))
  have HM := Lib.hid hM
  have HL := Lib.hid hl
  have HGG := Lib.hid hg
  clear c0 c1 c2' hM hl hg
  go_enter Tryd.func4, Tryd.ntmps4
  go_wp2_with fail
  generalize hw2 : W.alloc (.cells #[S M.sg, .slice A n c, .slice A2 m c2] 25) = w2 at *
  have hz2 : w2.heap.size = W.heap.size + 1 := by rw [← hw2]; simp
  clear hw2
  refine Calls.mono (fact_any w2) ?_
  rintro e w3 ⟨rfl, hb3⟩
  have HC3 : Hid (∀ w', Below w3.heap.size w3 w' → w'.cell? ⟨W.heap.size, 0, none⟩ = some (S M.sg) ∧ w'.cell? ⟨W.heap.size, 1, none⟩ = some (.slice A n c) ∧ w'.cell? ⟨W.heap.size, 2, none⟩ = some (.slice A2 m c2)) := Lib.hid fun w' hb =>
    have hbb : Below w2.heap.size w2 w' := hb3.trans (hb.mono hb3.size)
    ⟨(hbb.cell (p := ⟨W.heap.size, 0, none⟩) (by show W.heap.size < w2.heap.size; omega)).trans HC.out.1, (hbb.cell (p := ⟨W.heap.size, 1, none⟩) (by show W.heap.size < w2.heap.size; omega)).trans HC.out.2.1, (hbb.cell (p := ⟨W.heap.size, 2, none⟩) (by show W.heap.size < w2.heap.size; omega)).trans HC.out.2.2⟩
  have HB3 := Lib.hid (HB.out.trans (hb3.mono HB.out.size))
  have HG3 : Hid (∀ w', Below W.heap.size W w' → HG w') := Lib.hid fun w' hb => HGG.out.below hb (Nat.le_refl _)
  have HMW : Hid (∀ w', Below W.heap.size W w' → MacW w' W.heap.size A n A2 m M) := Lib.hid fun w' hb => HM.out.below hb
  have hz3 : W.heap.size ≤ w3.heap.size := HB3.out.size
  have HZ3 := Lib.hid hz3
  clear hb3 HB HC HGG HM hz2 hz3
  obtain ⟨c0, c1, c2'⟩ := HC3.out w3 (Below.refl _ _)
  by_cases hw : M.wrong = 0
  · have HO := Lib.hid (Mc.wrong_zero.1 hw)
    have HW := Lib.hid hw
    clear hw
    go_wp2_with fail
    clear c0 c1 c2'
    refine Calls.mono (any_ok M HO.out A A2 n c m c2 W.heap.size w3 (HMW.out w3 HB3.out) HZ3.out) ?_
    rintro e w4 ⟨⟨_ | t, hr, he⟩, hb4⟩
    · have he' : e = .returned (.tuple #[S [], .iface 54 (.int .i64 5)]) := he
      clear he
      subst he'
      have hf := Run.found HO.out hr
      have HF : Hid (M.takesB l = false) := Lib.hid (hf l)
      have HB4 := Lib.hid (HB3.out.trans (hb4.mono HZ3.out))
      have HK4 := Lib.hid (show Below w3.heap.size w3 w4 from hb4)
      have HER := Lib.hid (error_any 5 5 w4 (HG3.out w4 HB4.out))
      rw [err_ne (by decide : (5 : Int) ≠ 0)] at HER
      clear hr hb4 hf
      go_wp2_with fail
      refine HER.out.mono ?_
      rintro e w5 ⟨rfl, hb5⟩
      have HB5 := Lib.hid (HB4.out.trans (hb5.mono HB4.out.size))
      have HK5 := Lib.hid (HK4.out.trans (hb5.mono HK4.out.size))
      rw [show ((5 : Int) == 5) = true from rfl]
      clear hb5 HER
      obtain ⟨c0, c1, c2'⟩ := HC3.out w5 HK5.out
      have HWR := Lib.hid (wrong_any M A A2 n c m c2 W.heap.size w5 (HMW.out w5 HB5.out) HB5.out.size)
      rw [HW.out] at HWR
      go_wp2_with fail
      clear c0 c1 c2'
      refine HWR.out.mono ?_
      rintro e w6 ⟨rfl, hb6⟩
      have HB6 := Lib.hid (HB5.out.trans (hb6.mono HB5.out.size))
      have HK6 := Lib.hid (HK5.out.trans (hb6.mono HK5.out.size))
      clear hb6 HWR
      obtain ⟨c0, c1, c2'⟩ := HC3.out w6 HK6.out
      have HTK := Lib.hid (takes_any M A A2 n c m c2 W.heap.size l w6 (HMW.out w6 HB6.out) HB6.out.size)
      by_cases hl24 : 24 < l.length
      · rw [show takesE M l = 4 by unfold takesE; rw [if_neg (fun h => h HW.out), if_pos hl24], err_ne (by decide : (4 : Int) ≠ 0)] at HTK
        generalize takesV M l = tv at *
        clear hl24
        go_wp2_with fail
        clear c0 c1 c2'
        refine HTK.out.mono ?_
        rintro e w7 ⟨rfl, hb7⟩
        have HB7 := Lib.hid (HB6.out.trans (hb7.mono HB6.out.size))
        clear hb7 HTK
        go_wp2_with fail
        go_ret
        exact ⟨rfl, HB7.out⟩
      · rw [show takesE M l = 0 by unfold takesE; rw [if_neg (fun h => h HW.out), if_neg hl24], show errV 0 = .nilIface from rfl, show takesV M l = false by unfold takesV; rw [HF.out]; simp] at HTK
        clear hl24
        go_wp2_with fail
        clear c0 c1 c2'
        refine HTK.out.mono ?_
        rintro e w7 ⟨rfl, hb7⟩
        have HB7 := Lib.hid (HB6.out.trans (hb7.mono HB6.out.size))
        clear hb7 HTK
        go_wp2_with fail
        go_ret
        exact ⟨rfl, HB7.out⟩
    · have he' : e = .returned (.tuple #[S t, .nilIface]) := he
      clear he
      subst he'
      have hf := Run.found HO.out hr
      have HF := Lib.hid hf
      have HB4 := Lib.hid (HB3.out.trans (hb4.mono HZ3.out))
      have HK4 := Lib.hid (show Below w3.heap.size w3 w4 from hb4)
      clear hr hb4 hf
      obtain ⟨c0, c1, c2'⟩ := HC3.out w4 HK4.out
      have HWR := Lib.hid (wrong_any M A A2 n c m c2 W.heap.size w4 (HMW.out w4 HB4.out) HB4.out.size)
      rw [HW.out] at HWR
      go_wp2_with fail
      clear c0 c1 c2'
      refine HWR.out.mono ?_
      rintro e w6 ⟨rfl, hb6⟩
      have HB6 := Lib.hid (HB4.out.trans (hb6.mono HB4.out.size))
      have HK6 := Lib.hid (HK4.out.trans (hb6.mono HK4.out.size))
      clear hb6 HWR
      obtain ⟨c0, c1, c2'⟩ := HC3.out w6 HK6.out
      have HTK := Lib.hid (takes_any M A A2 n c m c2 W.heap.size l w6 (HMW.out w6 HB6.out) HB6.out.size)
      have HTE : Hid (takesE M l = if 24 < l.length then 4 else 0) := Lib.hid (by unfold takesE; rw [if_neg (fun h => h HW.out)])
      have HTV : Hid (takesV M l = (decide (l.length ≤ 24) && M.takesB l)) := Lib.hid (by unfold takesV; rw [decide_eq_true HW.out]; simp)
      generalize takesV M l = tv at *
      generalize takesE M l = te at *
      go_wp2_with fail
      clear c0 c1 c2'
      refine HTK.out.mono ?_
      rintro e w7 ⟨rfl, hb7⟩
      have HB7 := Lib.hid (HB6.out.trans (hb7.mono HB6.out.size))
      have HK7 := Lib.hid (HK6.out.trans (hb7.mono HK6.out.size))
      clear hb7 HTK
      obtain ⟨c0, c1, c2'⟩ := HC3.out w7 HK7.out
      have hte := HTE.out
      have htv := HTV.out
      clear HTE HTV
      by_cases hl24 : 24 < l.length
      · rw [if_pos hl24] at hte
        subst hte
        rw [err_ne (by decide : (4 : Int) ≠ 0)]
        clear hl24 htv
        by_cases ht : t.length ≤ 24
        · have HTT := Lib.hid (takes_any M A A2 n c m c2 W.heap.size t w7 (HMW.out w7 HB7.out) HB7.out.size)
          rw [show takesE M t = 0 by unfold takesE; rw [if_neg (fun h => h HW.out), if_neg (by omega)], show errV 0 = .nilIface from rfl, show takesV M t = true by unfold takesV; rw [HF.out.1, decide_eq_true HW.out, decide_eq_true ht]; rfl] at HTT
          have r1 : (t.length : Int) ≤ 24 := by omega
          go_wp2_with fail
          clear c0 c1 c2'
          refine HTT.out.mono ?_
          rintro e w8 ⟨rfl, hb8⟩
          have HBX := Lib.hid (HB7.out.trans (hb8.mono HB7.out.size))
          clear hb8 HTT r1 ht
          go_wp2_with fail
          go_ret
          exact ⟨rfl, HBX.out⟩
        · have r1 : ¬ (t.length : Int) ≤ 24 := by omega
          have HBX := Lib.hid HB7.out
          clear c0 c1 c2' ht
          go_wp2_with fail
          go_ret
          exact ⟨rfl, HBX.out⟩
      · rw [if_neg hl24] at hte
        subst hte
        rw [show errV 0 = .nilIface from rfl]
        rw [decide_eq_true (by omega : l.length ≤ 24), Bool.true_and] at htv
        cases htb : M.takesB l with
        | false =>
          rw [htb] at htv
          subst htv
          clear htb hl24
          by_cases ht : t.length ≤ 24
          · have HTT := Lib.hid (takes_any M A A2 n c m c2 W.heap.size t w7 (HMW.out w7 HB7.out) HB7.out.size)
            rw [show takesE M t = 0 by unfold takesE; rw [if_neg (fun h => h HW.out), if_neg (by omega)], show errV 0 = .nilIface from rfl, show takesV M t = true by unfold takesV; rw [HF.out.1, decide_eq_true HW.out, decide_eq_true ht]; rfl] at HTT
            have r1 : (t.length : Int) ≤ 24 := by omega
            go_wp2_with fail
            clear c0 c1 c2'
            refine HTT.out.mono ?_
            rintro e w8 ⟨rfl, hb8⟩
            have HBX := Lib.hid (HB7.out.trans (hb8.mono HB7.out.size))
            clear hb8 HTT r1 ht
            go_wp2_with fail
            go_ret
            exact ⟨rfl, HBX.out⟩
          · have r1 : ¬ (t.length : Int) ≤ 24 := by omega
            have HBX := Lib.hid HB7.out
            clear c0 c1 c2' ht
            go_wp2_with fail
            go_ret
            exact ⟨rfl, HBX.out⟩
        | true =>
          rw [htb] at htv
          subst htv
          rcases (HF.out.2 l htb).says with hlt | ⟨hle, hbe⟩
          · obtain ⟨j, r2⟩ : ∃ j, l.length = t.length + (j + 1) := ⟨l.length - t.length - 1, by omega⟩
            have r3 : (t.length : Int) < (t.length : Int) + ((j : Int) + 1) := by omega
            clear htb hl24 hlt
            by_cases ht : t.length ≤ 24
            · have HTT := Lib.hid (takes_any M A A2 n c m c2 W.heap.size t w7 (HMW.out w7 HB7.out) HB7.out.size)
              rw [show takesE M t = 0 by unfold takesE; rw [if_neg (fun h => h HW.out), if_neg (by omega)], show errV 0 = .nilIface from rfl, show takesV M t = true by unfold takesV; rw [HF.out.1, decide_eq_true HW.out, decide_eq_true ht]; rfl] at HTT
              have r1 : (t.length : Int) ≤ 24 := by omega
              go_wp2_with fail
              clear c0 c1 c2'
              refine HTT.out.mono ?_
              rintro e w8 ⟨rfl, hb8⟩
              have HBX := Lib.hid (HB7.out.trans (hb8.mono HB7.out.size))
              clear hb8 HTT r1 ht
              go_wp2_with fail
              go_ret
              exact ⟨rfl, HBX.out⟩
            · have r1 : ¬ (t.length : Int) ≤ 24 := by omega
              have HBX := Lib.hid HB7.out
              clear c0 c1 c2' ht
              go_wp2_with fail
              go_ret
              exact ⟨rfl, HBX.out⟩
          · have HBE := Lib.hid (fun w => before_any l t w (by rw [hle]; exact HL.out))
            rw [hbe] at HBE
            clear htb hl24 hbe
            by_cases ht : t.length ≤ 24
            · have HTT := Lib.hid (takes_any M A A2 n c m c2 W.heap.size t w7 (HMW.out w7 HB7.out) HB7.out.size)
              rw [show takesE M t = 0 by unfold takesE; rw [if_neg (fun h => h HW.out), if_neg (by omega)], show errV 0 = .nilIface from rfl, show takesV M t = true by unfold takesV; rw [HF.out.1, decide_eq_true HW.out, decide_eq_true ht]; rfl] at HTT
              have r1 : (t.length : Int) ≤ 24 := by omega
              go_wp2_with fail
              clear c0 c1 c2'
              refine HTT.out.mono ?_
              rintro e w8 ⟨rfl, hb8⟩
              have HBX := Lib.hid (HB7.out.trans (hb8.mono HB7.out.size))
              clear hb8 HTT r1 ht
              go_wp2_with fail
              refine HBE.out _ |>.mono ?_
              rintro e w9 ⟨rfl, q, rfl⟩
              go_wp2_with fail
              go_ret
              exact ⟨rfl, below_drewN HBX.out q⟩
            · have r1 : ¬ (t.length : Int) ≤ 24 := by omega
              have HBX := Lib.hid HB7.out
              clear c0 c1 c2' ht
              go_wp2_with fail
              refine HBE.out _ |>.mono ?_
              rintro e w9 ⟨rfl, q, rfl⟩
              go_wp2_with fail
              go_ret
              exact ⟨rfl, below_drewN HBX.out q⟩
  · have HW := Lib.hid hw
    have HWN : Hid ((M.wrong != 0) = true) := Lib.hid (by simp [hw])
    have HCK := Lib.hid (any_err M A A2 n c m c2 W.heap.size w3 (HMW.out w3 HB3.out) HZ3.out hw)
    rw [err_ne hw] at HCK
    clear hw
    go_wp2_with fail
    clear c0 c1 c2'
    refine HCK.out.mono ?_
    rintro e w4 ⟨rfl, hb4⟩
    have HB4 := Lib.hid (HB3.out.trans (hb4.mono HZ3.out))
    have HK4 := Lib.hid (show Below w3.heap.size w3 w4 from hb4)
    have HER := Lib.hid (error_any M.wrong 5 w4 (HG3.out w4 HB4.out))
    rw [err_ne HW.out] at HER
    clear hb4 HCK
    go_wp2_with fail
    refine HER.out.mono ?_
    rintro e w5 ⟨rfl, hb5⟩
    have HB5 := Lib.hid (HB4.out.trans (hb5.mono HB4.out.size))
    have HK5 := Lib.hid (HK4.out.trans (hb5.mono HK4.out.size))
    clear hb5 HER
    by_cases h5 : M.wrong = 5
    · rw [show (M.wrong == 5) = true by rw [h5]; rfl]
      obtain ⟨c0, c1, c2'⟩ := HC3.out w5 HK5.out
      have HWR := Lib.hid (wrong_any M A A2 n c m c2 W.heap.size w5 (HMW.out w5 HB5.out) HB5.out.size)
      clear h5
      go_wp2_with fail
      clear c0 c1 c2'
      refine HWR.out.mono ?_
      rintro e w6 ⟨rfl, hb6⟩
      have HB6 := Lib.hid (HB5.out.trans (hb6.mono HB5.out.size))
      have hwn := HWN.out
      clear hb6 HWR
      go_wp2_with fail
      go_ret
      exact ⟨rfl, HB6.out⟩
    · rw [show (M.wrong == 5) = false by simp [h5]]
      clear h5
      go_wp2_with fail
      go_ret
      exact ⟨rfl, HB5.out⟩
end Go.Proofs.YtfglajddibjnjaaDoor
