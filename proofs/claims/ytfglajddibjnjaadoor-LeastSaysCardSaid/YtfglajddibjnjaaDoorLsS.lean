/- package least's Same, at every two machines. No condition. -/
import Derived.Test.YtfglajddibjnjaaDoorLsG
namespace Go.Proofs.YtfglajddibjnjaaDoor
open Go.RowKit IntWalk Go.Maps
set_option linter.unusedSimpArgs false
attribute [local go_sem] byte_at str_app
attribute [local go_sem ↓] Go.wp_at_zero Go.wp_at_succ

/-- What Same answers: its error, its truth. -/
noncomputable def sameE (M M2 : Mc) : Int := if M.wrong ≠ 0 then M.wrong else if M2.wrong ≠ 0 then M2.wrong else if M.sg ≠ M2.sg then 3 else 0
noncomputable def sameB (M M2 : Mc) : Bool := decide (M.wrong = 0 ∧ M2.wrong = 0 ∧ M.sg = M2.sg ∧ M.least.tk = M2.least.tk ∧ M.least.nx = M2.least.nx)

set_option maxRecDepth 100000 in
set_option maxHeartbeats 4000000 in
theorem same_any (M M2 : Mc) (A A2 A' A2' : Option Addr) (n c m c2 n' c' m' c2' B : Nat) (w : World) (hM : MacW w B A n A2 m M) (hM' : MacW w B A' n' A2' m' M2) (hB : B ≤ w.heap.size) :
    Calls Tryd.prog 13 #[mcv M.sg A n c A2 m c2, mcv M2.sg A' n' c' A2' m' c2'] w fun e w' => e = .returned (.tuple #[.bool (sameB M M2), errV (sameE M M2)]) ∧ Below w.heap.size w w' := by
  obtain ⟨c0, c1, c2x⟩ := mac_cells w M.sg A n c A2 m c2 25
  generalize hw1 : w.alloc (.cells #[S M.sg, .slice A n c, .slice A2 m c2] 25) = w1 at *
  have HZ1 : w1.heap.size = w.heap.size + 1 := by rw [← hw1]; simp
  have HB1 : Below w.heap.size w w1 := by rw [← hw1]; exact (Below.refl _ w).alloc (Nat.le_refl _) _
  obtain ⟨d0, d1, d2⟩ := mac_cells w1 M2.sg A' n' c' A2' m' c2' 25
  have HB2 := Lib.hid (HB1.alloc (by omega) (.cells #[S M2.sg, .slice A' n' c', .slice A2' m' c2'] 25))
  have k0 : (w1.alloc (.cells #[S M2.sg, .slice A' n' c', .slice A2' m' c2'] 25)).cell? ⟨w.heap.size, 0, none⟩ = some (S M.sg) := (World.cell?_alloc_lt w1 _ ⟨w.heap.size, 0, none⟩ (show w.heap.size < w1.heap.size by omega)).trans c0
  have k1 : (w1.alloc (.cells #[S M2.sg, .slice A' n' c', .slice A2' m' c2'] 25)).cell? ⟨w.heap.size, 1, none⟩ = some (.slice A n c) := (World.cell?_alloc_lt w1 _ ⟨w.heap.size, 1, none⟩ (show w.heap.size < w1.heap.size by omega)).trans c1
  have k2 : (w1.alloc (.cells #[S M2.sg, .slice A' n' c', .slice A2' m' c2'] 25)).cell? ⟨w.heap.size, 2, none⟩ = some (.slice A2 m c2) := (World.cell?_alloc_lt w1 _ ⟨w.heap.size, 2, none⟩ (show w.heap.size < w1.heap.size by omega)).trans c2x
  have HM := Lib.hid (hM.below (HB2.out.mono hB))
  have HM' := Lib.hid (hM'.below (HB2.out.mono hB))
  have HS2 : Hid ((w1.alloc (.cells #[S M2.sg, .slice A' n' c', .slice A2' m' c2'] 25)).heap.size = w.heap.size + 2) := Lib.hid (by simp; omega)
  have HB := Lib.hid hB
  have HG := Lib.hid HZ1
  clear hM hM' hB c0 c1 c2x HB1
  generalize hw2 : w1.alloc (.cells #[S M2.sg, .slice A' n' c', .slice A2' m' c2'] 25) = w2 at *
  have HKC := Lib.hid (And.intro k0 (And.intro k1 k2))
  rw [HZ1] at d0 d1 d2
  have HDC := Lib.hid (And.intro d0 (And.intro d1 d2))
  clear d0 d1 d2
  by_cases h1 : M.wrong = 0
  · have HO := Lib.hid (Mc.wrong_zero.1 h1)
    have HCK := Lib.hid (of_ok M HO.out A A2 n c m c2 B w2 HM.out (by have := HB.out; have := HS2.out; omega))
    have HW1 := Lib.hid h1
    clear h1
    go_enter Tryd.func13, Tryd.ntmps13
    go_wp2_with fail
    clear k0 k1 k2 hw1 hw2
    refine HCK.out.mono ?_
    rintro e w3 ⟨⟨A3, k3, A4, k4, rfl, hm3⟩, hb3⟩
    have HB3 := Lib.hid hb3
    have hz3 : w2.heap.size ≤ w3.heap.size := hb3.size
    have HM3 := Lib.hid hm3
    have g0 : (w3.alloc (.cells #[S M.sg, .slice A3 M.least.n k3, .slice A4 M.least.n k4] 25)).cell? ⟨w.heap.size + 1, 0, none⟩ = some (S M2.sg) := (World.cell?_alloc_lt w3 _ ⟨w.heap.size + 1, 0, none⟩ (by show w.heap.size + 1 < w3.heap.size; have := HS2.out; omega)).trans ((hb3.cell (p := ⟨w.heap.size + 1, 0, none⟩) (by show w.heap.size + 1 < w2.heap.size; have := HS2.out; omega)).trans HDC.out.1)
    have g1 : (w3.alloc (.cells #[S M.sg, .slice A3 M.least.n k3, .slice A4 M.least.n k4] 25)).cell? ⟨w.heap.size + 1, 1, none⟩ = some (.slice A' n' c') := (World.cell?_alloc_lt w3 _ ⟨w.heap.size + 1, 1, none⟩ (by show w.heap.size + 1 < w3.heap.size; have := HS2.out; omega)).trans ((hb3.cell (p := ⟨w.heap.size + 1, 1, none⟩) (by show w.heap.size + 1 < w2.heap.size; have := HS2.out; omega)).trans HDC.out.2.1)
    have g2 : (w3.alloc (.cells #[S M.sg, .slice A3 M.least.n k3, .slice A4 M.least.n k4] 25)).cell? ⟨w.heap.size + 1, 2, none⟩ = some (.slice A2' m' c2') := (World.cell?_alloc_lt w3 _ ⟨w.heap.size + 1, 2, none⟩ (by show w.heap.size + 1 < w3.heap.size; have := HS2.out; omega)).trans ((hb3.cell (p := ⟨w.heap.size + 1, 2, none⟩) (by show w.heap.size + 1 < w2.heap.size; have := HS2.out; omega)).trans HDC.out.2.2)
    have HLOW : Hid (Below w.heap.size w (w3.alloc (.cells #[S M.sg, .slice A3 M.least.n k3, .slice A4 M.least.n k4] 25))) := Lib.hid ((HB2.out.trans (hb3.mono HB2.out.size)).alloc (by have := HS2.out; omega) _)
    have HL3 : Hid (Below w3.heap.size w3 (w3.alloc (.cells #[S M.sg, .slice A3 M.least.n k3, .slice A4 M.least.n k4] 25))) := Lib.hid ((Below.refl w3.heap.size w3).alloc (Nat.le_refl _) _)
    have HH3 : Hid ((w3.alloc (.cells #[S M.sg, .slice A3 M.least.n k3, .slice A4 M.least.n k4] 25)).heap[w3.heap.size]? = some (.cells #[S M.sg, .slice A3 M.least.n k3, .slice A4 M.least.n k4] 25 (0, 0))) := Lib.hid (heap_alloc_new w3 _)
    have HM3' := Lib.hid ((HM'.out.below (hb3.mono (by have := HB.out; have := HS2.out; omega))).below (HL3.out.mono (by have := HB.out; have := HS2.out; omega)))
    have HM4 := Lib.hid (hm3.below HL3.out)
    clear hm3 hb3 HCK
    generalize hw4 : w3.alloc (.cells #[S M.sg, .slice A3 M.least.n k3, .slice A4 M.least.n k4] 25) = w4 at *
    have HZ4 : Hid (w3.heap.size < w4.heap.size) := Lib.hid (by rw [← hw4]; simp)
    by_cases h2 : M2.wrong = 0
    · have HO2 := Lib.hid (Mc.wrong_zero.1 h2)
      have HCK := Lib.hid (of_ok M2 HO2.out A' A2' n' c' m' c2' B w4 HM3'.out (by have := HB.out; have := HS2.out; have := HZ4.out; omega))
      have HW2 := Lib.hid h2
      clear h2
      go_wp2_with fail
      clear hw4 g0 g1 g2
      refine HCK.out.mono ?_
      rintro e w5 ⟨⟨A5, k5, A6, k6, rfl, hm5⟩, hb5⟩
      have HM5 := Lib.hid hm5
      have HM45 := Lib.hid ((HM4.out.more (Nat.le_of_lt HZ4.out)).below hb5)
      have HH35 : Hid (w5.heap[w3.heap.size]? = some (.cells #[S M.sg, .slice A3 M.least.n k3, .slice A4 M.least.n k4] 25 (0, 0))) := Lib.hid ((hb5.block w3.heap.size HZ4.out).trans HH3.out)
      have HB5 := Lib.hid (HLOW.out.trans (hb5.mono HLOW.out.size))
      have HZ5 : Hid (w3.heap.size < w5.heap.size) := Lib.hid (Nat.lt_of_lt_of_le HZ4.out hb5.size)
      have HD5 : Hid (w5.cell? ⟨w.heap.size + 1, 0, none⟩ = some (S M2.sg) ∧ w5.cell? ⟨w.heap.size, 0, none⟩ = some (S M.sg)) := Lib.hid (by
        have hh : Below w2.heap.size w2 w5 := HB3.out.trans ((HL3.out.trans (hb5.mono (Nat.le_of_lt HZ4.out))).mono HB3.out.size)
        exact ⟨(hh.cell (p := ⟨w.heap.size + 1, 0, none⟩) (by show w.heap.size + 1 < w2.heap.size; have := HS2.out; omega)).trans HDC.out.1, (hh.cell (p := ⟨w.heap.size, 0, none⟩) (by show w.heap.size < w2.heap.size; have := HS2.out; omega)).trans HKC.out.1⟩)
      have HZ45 : Hid (w4.heap.size ≤ w5.heap.size) := Lib.hid hb5.size
      clear hm5 hb5 HCK
      have s0 : (w5.alloc (.cells #[S M2.sg, .slice A5 M2.least.n k5, .slice A6 M2.least.n k6] 25)).cell? ⟨w.heap.size, 0, none⟩ = some (S M.sg) := (World.cell?_alloc_lt w5 _ ⟨w.heap.size, 0, none⟩ (by show w.heap.size < w5.heap.size; have := HZ5.out; have := HB3.out.size; have := HS2.out; omega)).trans HD5.out.2
      have s1 : (w5.alloc (.cells #[S M2.sg, .slice A5 M2.least.n k5, .slice A6 M2.least.n k6] 25)).cell? ⟨w.heap.size + 1, 0, none⟩ = some (S M2.sg) := (World.cell?_alloc_lt w5 _ ⟨w.heap.size + 1, 0, none⟩ (by show w.heap.size + 1 < w5.heap.size; have := HZ5.out; have := HB3.out.size; have := HS2.out; omega)).trans HD5.out.1
      have HB6 : Hid (Below w.heap.size w (w5.alloc (.cells #[S M2.sg, .slice A5 M2.least.n k5, .slice A6 M2.least.n k6] 25))) := Lib.hid (HB5.out.alloc HB5.out.size _)
      have HL5 : Hid (Below w5.heap.size w5 (w5.alloc (.cells #[S M2.sg, .slice A5 M2.least.n k5, .slice A6 M2.least.n k6] 25))) := Lib.hid ((Below.refl w5.heap.size w5).alloc (Nat.le_refl _) _)
      have hh5 : (w5.alloc (.cells #[S M2.sg, .slice A5 M2.least.n k5, .slice A6 M2.least.n k6] 25)).heap[w5.heap.size]? = some (.cells #[S M2.sg, .slice A5 M2.least.n k5, .slice A6 M2.least.n k6] 25 (0, 0)) := heap_alloc_new w5 _
      have hh3 := (HL5.out.block w3.heap.size HZ5.out).trans HH35.out
      obtain ⟨_, x1, x2, _, _, _⟩ := three_atL hh3
      obtain ⟨_, y1, y2, _, _, _⟩ := three_atL hh5
      have HST := Lib.hid (And.intro x1 (And.intro x2 (And.intro y1 y2)))
      have h66 : w5.heap.size ≤ (w5.alloc (.cells #[S M2.sg, .slice A5 M2.least.n k5, .slice A6 M2.least.n k6] 25)).heap.size := HL5.out.size
      have hq1 := ((HM45.out.more HZ45.out).below HL5.out).more h66
      have hq2 := ((HM5.out).below HL5.out).more h66
      have HRa := Lib.hid hq1.rows; have HBa := Lib.hid hq1.tks
      have HRb := Lib.hid hq2.rows; have HBb := Lib.hid hq2.tks
      have HN1 : Hid (M.least.n ≤ 100000) := Lib.hid (by have := Mc.least_le HO.out; have := HO.out.small; omega)
      have HN2 : Hid (∀ i, i < M.least.n → (ro M.least.nx i).length ≤ 100000) := Lib.hid (fun i hi => by have h1 := (Mc.least_ok HO.out).row i hi; have h2 := (Mc.least_ok HO.out).few; omega)
      clear x1 x2 y1 y2 hh3 hh5 hq1 hq2 h66
      by_cases hsg : M.sg = M2.sg
      · have HE : Hid (sameE M M2 = 0) := Lib.hid (by unfold sameE; rw [if_neg (by have := HW1.out; omega), if_neg (by have := HW2.out; omega), if_neg (fun h => h hsg)])
        by_cases ht : M.least.tk = M2.least.tk
        · have HT : Hid (decide (M.least.tk = M2.least.tk) = true) := Lib.hid (decide_eq_true ht)
          have HBo : Hid (sameB M M2 = decide (M.least.nx = M2.least.nx)) := Lib.hid (by unfold sameB; rw [HW1.out, HW2.out, hsg, ht]; simp)
          have s1' := s1.trans (show some (S M2.sg) = some (S M.sg) by rw [hsg])
          clear s1
          clear hsg ht
          go_upto_region 9 with fail
          clear s0 s1'
          generalize w5.alloc (.cells #[S M2.sg, .slice A5 M2.least.n k5, .slice A6 M2.least.n k6] 25) = w6 at *
          generalize w3.heap.size = g3 at *
          generalize w5.heap.size = g5 at *
          obtain ⟨x1, x2, y1, y2⟩ := HST.out
          go_wp2_with fail
          clear x1 x2 y1 y2
          refine Calls.mono (eqB_any A4 A6 M.least.n M2.least.n k4 k6 w6.heap.size M.least.tk M2.least.tk w6 HBa.out HBb.out HN1.out) ?_
          rintro e w7 ⟨rfl, q, rfl⟩
          rw [HT.out]
          have z1 : (w6.drewN q).cell? ⟨g3, 1, none⟩ = some (.slice A3 M.least.n k3) := HST.out.1
          have z2 : (w6.drewN q).cell? ⟨g5, 1, none⟩ = some (.slice A5 M2.least.n k5) := HST.out.2.2.1
          go_wp2_with fail
          refine Calls.mono (eqR_any A3 A5 M.least.n M2.least.n k3 k5 w6.heap.size M.least.nx M2.least.nx (w6.drewN q) HRa.out HRb.out HN1.out HN2.out) ?_
          rintro e w8 ⟨rfl, q2, rfl⟩
          go_wp2_with fail
          go_ret2
          refine ⟨by rw [HE.out, HBo.out]; rfl, ?_⟩
          exact below_drewN HB6.out (q + q2)
        · have HT : Hid (decide (M.least.tk = M2.least.tk) = false) := Lib.hid (decide_eq_false ht)
          have HBo : Hid (sameB M M2 = false) := Lib.hid (by unfold sameB; exact decide_eq_false fun h => ht h.2.2.2.1)
          have s1' := s1.trans (show some (S M2.sg) = some (S M.sg) by rw [hsg])
          clear s1
          clear hsg ht
          go_upto_region 9 with fail
          clear s0 s1'
          generalize w5.alloc (.cells #[S M2.sg, .slice A5 M2.least.n k5, .slice A6 M2.least.n k6] 25) = w6 at *
          generalize w3.heap.size = g3 at *
          generalize w5.heap.size = g5 at *
          obtain ⟨x1, x2, y1, y2⟩ := HST.out
          go_wp2_with fail
          clear x1 x2 y1 y2
          refine Calls.mono (eqB_any A4 A6 M.least.n M2.least.n k4 k6 w6.heap.size M.least.tk M2.least.tk w6 HBa.out HBb.out HN1.out) ?_
          rintro e w7 ⟨rfl, q, rfl⟩
          rw [HT.out]
          go_wp2_with fail
          go_ret2
          refine ⟨by rw [HE.out, HBo.out]; rfl, ?_⟩
          exact below_drewN HB6.out q
      · have HE : Hid (sameE M M2 = 3) := Lib.hid (by unfold sameE; rw [if_neg (by have := HW1.out; omega), if_neg (by have := HW2.out; omega), if_pos hsg])
        have HBo : Hid (sameB M M2 = false) := Lib.hid (by unfold sameB; exact decide_eq_false fun h => hsg h.2.2.1)
        have hd : (M.sg == M2.sg) = false := by simp [hsg]
        go_wp2_with fail
        go_ret2
        refine ⟨by rw [HE.out, HBo.out]; rfl, ?_⟩
        exact HB6.out
    · have HCK := Lib.hid (of_err M2 A' A2' n' c' m' c2' B w4 HM3'.out (by have := HB.out; have := HS2.out; have := HZ4.out; omega) h2)
      rw [err_ne h2] at HCK
      have HW2 := Lib.hid h2
      clear h2
      go_wp2_with fail
      clear hw4 g0 g1 g2
      refine HCK.out.mono ?_
      rintro e w5 ⟨rfl, hb5⟩
      have HB5 := Lib.hid (HLOW.out.trans (hb5.mono HLOW.out.size))
      have HZ5 : Hid (w.heap.size ≤ w5.heap.size) := Lib.hid HB5.out.size
      have HE : Hid (sameE M M2 = M2.wrong) := Lib.hid (by unfold sameE; rw [if_neg (by have := HW1.out; omega), if_pos HW2.out])
      have HBo : Hid (sameB M M2 = false) := Lib.hid (by unfold sameB; exact decide_eq_false fun h => HW2.out h.2.1)
      clear hb5 HCK
      go_wp2_with fail
      go_ret2
      refine ⟨by rw [HE.out, HBo.out, err_ne HW2.out]; rfl, ?_⟩
      exact HB5.out.alloc HZ5.out _
  · go_enter Tryd.func13, Tryd.ntmps13
    have HCK := Lib.hid (of_err M A A2 n c m c2 B w2 HM.out (by have := HB.out; have := HS2.out; omega) h1)
    rw [err_ne h1] at HCK
    go_wp2_with fail
    refine HCK.out.mono ?_
    rintro e w3 ⟨rfl, hb3⟩
    have HB3 := Lib.hid (HB2.out.trans (hb3.mono HB2.out.size))
    have hz3 : w.heap.size ≤ w3.heap.size := by have := hb3.size; have := HS2.out; omega
    have HZ3 := Lib.hid hz3
    have hsE : sameE M M2 = M.wrong := by unfold sameE; rw [if_pos h1]
    have hsB : sameB M M2 = false := by unfold sameB; exact decide_eq_false fun h => h1 h.1
    have HE := Lib.hid hsE
    have HBo := Lib.hid hsB
    have HW := Lib.hid h1
    clear hb3 HCK hw1 hw2 k0 k1 k2 hz3 hsE hsB h1
    go_wp2_with fail
    go_ret2
    refine ⟨by rw [HE.out, HBo.out, err_ne HW.out]; rfl, ?_⟩
    exact HB3.out.alloc HZ3.out _
end Go.Proofs.YtfglajddibjnjaaDoor
