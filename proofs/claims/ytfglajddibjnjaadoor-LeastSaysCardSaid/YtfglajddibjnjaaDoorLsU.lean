/- letterbecksame's Ints, Bools, Rows, Machines. No condition. -/
import Derived.Test.YtfglajddibjnjaaDoorLsS
namespace Go.Proofs.YtfglajddibjnjaaDoor
open Go.RowKit IntWalk
set_option linter.unusedSimpArgs false
attribute [local go_sem] byte_at str_app
attribute [local go_sem ↓] Go.wp_at_zero Go.wp_at_succ

set_option maxRecDepth 100000 in
set_option maxHeartbeats 2000000 in
theorem smI_any (A A2 : Option Addr) (n m c c2 B : Nat) (L L2 : List Int) (w : World) (h : Ints w B A n L) (h2 : Ints w B A2 m L2) (hn : n ≤ 100000) :
    Calls Tryd.prog 35 #[.slice A n c, .slice A2 m c2] w fun e w' => e = .returned (.bool (decide (L = L2))) ∧ ∃ q, w' = w.drewN q := by
  have H1 := Lib.hid h; have H2 := Lib.hid h2
  have l1 := h.1; have l2 := h2.1
  clear h h2
  by_cases hnm : n = m
  · subst hnm
    have q1 : ((n : Int) != (n : Int)) = false := by simp
    have HL := Lib.hid l1; have HL2 := Lib.hid l2
    clear l1 l2
    go_enter Tryd.func35, Tryd.ntmps35
    go_wp2_with fail
    go_loopg [5] n (fun f iv wr => ∃ j q : Nat, j + f = n ∧ iv = .int .i64 (j : Int) ∧ wr = w.drewN q ∧ Hid (∀ i, i < j → gi L i = gi L2 i))
    case atStart => exact ⟨0, 0, by omega, rfl, rfl, Lib.hid fun i h => absurd h (by omega)⟩
    case round =>
      obtain ⟨j, q, hjf, rfl, rfl, HP⟩ := hrel
      by_cases hlt : j < n
      · obtain ⟨f, rfl⟩ : ∃ f, gk = f + 1 := ⟨gk - 1, by omega⟩
        obtain ⟨b, o, rfl, _, c0⟩ := H1.out.at_ hlt
        obtain ⟨b2, o2, rfl, _, c1⟩ := H2.out.at_ hlt
        have p1 : (j : Int) < (n : Int) := by omega
        have p2 : IntKind.i64.wrap ((j : Int) + 1) = (j : Int) + 1 := i64_in _ (by omega)
        by_cases he : gi L j = gi L2 j
        · have HP2 : Hid (∀ i, i < j + 1 → gi L i = gi L2 i) := Lib.hid fun i hi => by
            rcases Nat.lt_or_ge i j with hl | hl
            · exact HP.out i hl
            · obtain rfl : i = j := by omega
              exact he
          have q2 : (gi L j != gi L2 j) = false := by rw [he]; simp
          clear he HP
          generalize gi L j = x at *
          generalize gi L2 j = y at *
          go_wp2_with fail
          go_quiet (fail)
          go_wp2_with fail
          go_roundg f
          case measure => omega
          case rel => exact ⟨j + 1, q + nq, by omega, by simp, by simp, HP2⟩
        · have q2 : (gi L j != gi L2 j) = true := by simpa using he
          have HD : Hid (decide (L = L2) = false) := Lib.hid (decide_eq_false fun e => he (by rw [e]))
          clear he HP
          generalize gi L j = x at *
          generalize gi L2 j = y at *
          go_wp2_with fail
          go_quiet (fail)
          go_wp2_with fail
          go_ret
          exact ⟨ret_bool HD.out.symm, q + nq, by simp⟩
      · obtain rfl : j = n := by omega
        have HD : Hid (decide (L = L2) = true) := Lib.hid (decide_eq_true (ints_ext (HL.out.trans HL2.out.symm) fun i hi => HP.out i (by rw [HL.out] at hi; exact hi)))
        have p1 : ¬ (j : Int) < (j : Int) := by omega
        clear HP
        go_wp2_with fail
        go_ret
        exact ⟨ret_bool HD.out.symm, _, rfl⟩
  · have q1 : ((n : Int) != (m : Int)) = true := by simp; omega
    have HD : Hid (decide (L = L2) = false) := Lib.hid (decide_eq_false fun e => hnm (by rw [← l1, ← l2, e]))
    clear l1 l2 hnm
    go_enter Tryd.func35, Tryd.ntmps35
    go_wp2_with fail
    go_ret
    exact ⟨ret_bool HD.out.symm, 0, rfl⟩

set_option maxRecDepth 100000 in
set_option maxHeartbeats 2000000 in
theorem smB_any (A A2 : Option Addr) (n m c c2 B : Nat) (L L2 : List Bool) (w : World) (h : Bls w B A n L) (h2 : Bls w B A2 m L2) (hn : n ≤ 100000) :
    Calls Tryd.prog 24 #[.slice A n c, .slice A2 m c2] w fun e w' => e = .returned (.bool (decide (L = L2))) ∧ ∃ q, w' = w.drewN q := by
  have H1 := Lib.hid h; have H2 := Lib.hid h2
  have l1 := h.1; have l2 := h2.1
  clear h h2
  by_cases hnm : n = m
  · subst hnm
    have q1 : ((n : Int) != (n : Int)) = false := by simp
    have HL := Lib.hid l1; have HL2 := Lib.hid l2
    clear l1 l2
    go_enter Tryd.func24, Tryd.ntmps24
    go_wp2_with fail
    go_loopg [5] n (fun f iv wr => ∃ j q : Nat, j + f = n ∧ iv = .int .i64 (j : Int) ∧ wr = w.drewN q ∧ Hid (∀ i, i < j → bo L i = bo L2 i))
    case atStart => exact ⟨0, 0, by omega, rfl, rfl, Lib.hid fun i h => absurd h (by omega)⟩
    case round =>
      obtain ⟨j, q, hjf, rfl, rfl, HP⟩ := hrel
      by_cases hlt : j < n
      · obtain ⟨f, rfl⟩ : ∃ f, gk = f + 1 := ⟨gk - 1, by omega⟩
        obtain ⟨b, o, rfl, _, c0⟩ := H1.out.at_ hlt
        obtain ⟨b2, o2, rfl, _, c1⟩ := H2.out.at_ hlt
        have p1 : (j : Int) < (n : Int) := by omega
        have p2 : IntKind.i64.wrap ((j : Int) + 1) = (j : Int) + 1 := i64_in _ (by omega)
        by_cases he : bo L j = bo L2 j
        · have HP2 : Hid (∀ i, i < j + 1 → bo L i = bo L2 i) := Lib.hid fun i hi => by
            rcases Nat.lt_or_ge i j with hl | hl
            · exact HP.out i hl
            · obtain rfl : i = j := by omega
              exact he
          rw [he] at c0
          clear he HP
          generalize bo L2 j = y at *
          cases y
          all_goals
            go_wp2_with fail
            go_quiet (fail)
            go_wp2_with fail
            go_roundg f
            case measure => omega
            case rel => exact ⟨j + 1, q + nq, by omega, by simp, by simp, HP2⟩
        · have q2 : (bo L j != bo L2 j) = true := by simpa using he
          have HD : Hid (decide (L = L2) = false) := Lib.hid (decide_eq_false fun e => he (by rw [e]))
          have hy : bo L2 j = !bo L j := by cases h1 : bo L j <;> cases h2 : bo L2 j <;> simp_all
          rw [hy] at c1
          clear he HP hy q2
          generalize bo L j = x at *
          cases x
          all_goals
            go_wp2_with fail
            go_quiet (fail)
            go_wp2_with fail
            go_ret
            exact ⟨ret_bool HD.out.symm, q + nq, by simp⟩
      · obtain rfl : j = n := by omega
        have HD : Hid (decide (L = L2) = true) := Lib.hid (decide_eq_true (bls_ext (HL.out.trans HL2.out.symm) fun i hi => HP.out i (by rw [HL.out] at hi; exact hi)))
        have p1 : ¬ (j : Int) < (j : Int) := by omega
        clear HP
        go_wp2_with fail
        go_ret
        exact ⟨ret_bool HD.out.symm, _, rfl⟩
  · have q1 : ((n : Int) != (m : Int)) = true := by simp; omega
    have HD : Hid (decide (L = L2) = false) := Lib.hid (decide_eq_false fun e => hnm (by rw [← l1, ← l2, e]))
    clear l1 l2 hnm
    go_enter Tryd.func24, Tryd.ntmps24
    go_wp2_with fail
    go_ret
    exact ⟨ret_bool HD.out.symm, 0, rfl⟩

theorem rws_ext {L L2 : List (List Int)} (h : L.length = L2.length) (hp : ∀ i, i < L.length → ro L i = ro L2 i) : L = L2 := by
  apply List.ext_getElem h
  intro i h1 h2
  have := hp i h1
  rwa [ro_eq h1, ro_eq h2] at this
set_option maxRecDepth 100000 in
set_option maxHeartbeats 2000000 in
theorem smR_any (A A2 : Option Addr) (n m c c2 B : Nat) (L L2 : List (List Int)) (w : World) (h : Rws w B A n L) (h2 : Rws w B A2 m L2) (hn : n ≤ 100000) (hr : ∀ i, i < n → (ro L i).length ≤ 100000) :
    Calls Tryd.prog 23 #[.slice A n c, .slice A2 m c2] w fun e w' => e = .returned (.bool (decide (L = L2))) ∧ ∃ q, w' = w.drewN q := by
  have H1 := Lib.hid h; have H2 := Lib.hid h2; have HR := Lib.hid hr
  have l1 := h.1; have l2 := h2.1
  clear h h2 hr
  by_cases hnm : n = m
  · subst hnm
    have q1 : ((n : Int) != (n : Int)) = false := by simp
    have HL := Lib.hid l1; have HL2 := Lib.hid l2
    clear l1 l2
    go_enter Tryd.func23, Tryd.ntmps23
    go_wp2_with fail
    go_loopg [5] n (fun f iv wr => ∃ j q : Nat, j + f = n ∧ iv = .int .i64 (j : Int) ∧ wr = w.drewN q ∧ Hid (∀ i, i < j → ro L i = ro L2 i))
    case atStart => exact ⟨0, 0, by omega, rfl, rfl, Lib.hid fun i h => absurd h (by omega)⟩
    case round =>
      obtain ⟨j, q, hjf, rfl, hwr, HP⟩ := hrel
      have HWR := Lib.hid hwr
      have H1r : Rws wr B A n L := by rw [hwr]; exact H1.out
      have H2r : Rws wr B A2 n L2 := by rw [hwr]; exact H2.out
      clear hwr
      by_cases hlt : j < n
      · obtain ⟨f, rfl⟩ : ∃ f, gk = f + 1 := ⟨gk - 1, by omega⟩
        obtain ⟨b, o, a, na, ca, rfl, _, c0, hI1⟩ := H1r.at_ hlt
        obtain ⟨b2, o2, a2, na2, ca2, rfl, _, c1, hI2⟩ := H2r.at_ hlt
        have HI1 := Lib.hid hI1; have HI2 := Lib.hid hI2
        have HN : Hid (na ≤ 100000) := Lib.hid (by have := HR.out j hlt; have := hI1.1; omega)
        have p1 : (j : Int) < (n : Int) := by omega
        have p2 : IntKind.i64.wrap ((j : Int) + 1) = (j : Int) + 1 := i64_in _ (by omega)
        clear hI1 hI2 H1r H2r
        by_cases he : ro L j = ro L2 j
        · have HP2 : Hid (∀ i, i < j + 1 → ro L i = ro L2 i) := Lib.hid fun i hi => by
            rcases Nat.lt_or_ge i j with hl | hl
            · exact HP.out i hl
            · obtain rfl : i = j := by omega
              exact he
          have hd : decide (ro L j = ro L2 j) = true := decide_eq_true he
          have HC : ∀ r, Calls Tryd.prog 35 #[.slice a na ca, .slice a2 na2 ca2] (wr.drewN r) fun e w' => e = .returned (.bool true) ∧ ∃ m, w' = (wr.drewN r).drewN m := fun r => by
            have := smI_any a a2 na na2 ca ca2 B (ro L j) (ro L2 j) (wr.drewN r) HI1.out HI2.out HN.out
            rwa [hd] at this
          have HCC := Lib.hid HC
          clear he HP hd HC
          go_wp2_with fail
          go_quiet ((go_at_call 35; exact Calls.quiet_of (HCC.out _)))
          go_wp2_with fail
          go_roundg f
          case measure => omega
          case rel => exact ⟨j + 1, q + nq, by omega, by simp, by rw [HWR.out]; simp, HP2⟩
        · have hd : decide (ro L j = ro L2 j) = false := decide_eq_false he
          have HD : Hid (decide (L = L2) = false) := Lib.hid (decide_eq_false fun e => he (by rw [e]))
          have HC : ∀ r, Calls Tryd.prog 35 #[.slice a na ca, .slice a2 na2 ca2] (wr.drewN r) fun e w' => e = .returned (.bool false) ∧ ∃ m, w' = (wr.drewN r).drewN m := fun r => by
            have := smI_any a a2 na na2 ca ca2 B (ro L j) (ro L2 j) (wr.drewN r) HI1.out HI2.out HN.out
            rwa [hd] at this
          have HCC := Lib.hid HC
          clear he HP hd HC
          go_wp2_with fail
          go_quiet ((go_at_call 35; exact Calls.quiet_of (HCC.out _)))
          go_wp2_with fail
          go_ret
          exact ⟨ret_bool HD.out.symm, q + nq, by rw [HWR.out]; simp⟩
      · obtain rfl : j = n := by omega
        have HD : Hid (decide (L = L2) = true) := Lib.hid (decide_eq_true (rws_ext (HL.out.trans HL2.out.symm) fun i hi => HP.out i (by rw [HL.out] at hi; exact hi)))
        have p1 : ¬ (j : Int) < (j : Int) := by omega
        clear HP
        go_wp2_with fail
        go_ret
        exact ⟨ret_bool HD.out.symm, _, HWR.out⟩
  · have q1 : ((n : Int) != (m : Int)) = true := by simp; omega
    have HD : Hid (decide (L = L2) = false) := Lib.hid (decide_eq_false fun e => hnm (by rw [← l1, ← l2, e]))
    clear l1 l2 hnm
    go_enter Tryd.func23, Tryd.ntmps23
    go_wp2_with fail
    go_ret
    exact ⟨ret_bool HD.out.symm, 0, rfl⟩

noncomputable instance : DecidableEq Mc := fun _ _ => Classical.propDecidable _
theorem mc_ext {M M2 : Mc} (h1 : M.sg = M2.sg) (h2 : M.nx = M2.nx) (h3 : M.tk = M2.tk) : M = M2 := by
  obtain ⟨a, b, c⟩ := M; obtain ⟨a2, b2, c2⟩ := M2
  simp only [] at *
  rw [h1, h2, h3]
set_option maxRecDepth 100000 in
set_option maxHeartbeats 2000000 in
theorem smM_any (M M2 : Mc) (A A2 A' A2' : Option Addr) (n c m c2 n' c' m' c2' B : Nat) (w : World) (hM : MacW w B A n A2 m M) (hM' : MacW w B A' n' A2' m' M2) (hB : B ≤ w.heap.size) (hn : n ≤ 100000) (hm : m ≤ 100000) (hr : ∀ i, i < n → (ro M.nx i).length ≤ 100000) :
    Calls Tryd.prog 10 #[mcv M.sg A n c A2 m c2, mcv M2.sg A' n' c' A2' m' c2'] w fun e w' => e = .returned (.bool (decide (M = M2))) ∧ Below w.heap.size w w' := by
  obtain ⟨c0, c1, c2x⟩ := mac_cells w M.sg A n c A2 m c2 25
  generalize hw1 : w.alloc (.cells #[S M.sg, .slice A n c, .slice A2 m c2] 25) = w1 at *
  have HZ1 : w1.heap.size = w.heap.size + 1 := by rw [← hw1]; simp
  have HB1 : Below w.heap.size w w1 := by rw [← hw1]; exact (Below.refl _ w).alloc (Nat.le_refl _) _
  obtain ⟨d0, d1, d2⟩ := mac_cells w1 M2.sg A' n' c' A2' m' c2' 25
  have HB2 := Lib.hid (HB1.alloc (by omega) (.cells #[S M2.sg, .slice A' n' c', .slice A2' m' c2'] 25))
  have k0 : (w1.alloc (.cells #[S M2.sg, .slice A' n' c', .slice A2' m' c2'] 25)).cell? ⟨w.heap.size, 0, none⟩ = some (S M.sg) := (World.cell?_alloc_lt w1 _ ⟨w.heap.size, 0, none⟩ (show w.heap.size < w1.heap.size by omega)).trans c0
  have k1 : (w1.alloc (.cells #[S M2.sg, .slice A' n' c', .slice A2' m' c2'] 25)).cell? ⟨w.heap.size, 1, none⟩ = some (.slice A n c) := (World.cell?_alloc_lt w1 _ ⟨w.heap.size, 1, none⟩ (show w.heap.size < w1.heap.size by omega)).trans c1
  have k2 : (w1.alloc (.cells #[S M2.sg, .slice A' n' c', .slice A2' m' c2'] 25)).cell? ⟨w.heap.size, 2, none⟩ = some (.slice A2 m c2) := (World.cell?_alloc_lt w1 _ ⟨w.heap.size, 2, none⟩ (show w.heap.size < w1.heap.size by omega)).trans c2x
  have HM := Lib.hid (hM.below (HB2.out.mono hB))
  have HM' := Lib.hid (hM'.below (HB2.out.mono hB))
  clear hM hM' hB c0 c1 c2x HB1
  generalize hw2 : w1.alloc (.cells #[S M2.sg, .slice A' n' c', .slice A2' m' c2'] 25) = w2 at *
  rw [HZ1] at d0 d1 d2
  have HST := Lib.hid (And.intro k1 (And.intro k2 (And.intro d1 d2)))
  have HN := Lib.hid hn; have HMM := Lib.hid hm; have HR := Lib.hid hr
  clear hn hm hr
  by_cases hs : M.sg = M2.sg
  · have d0' := d0.trans (show some (S M2.sg) = some (S M.sg) by rw [hs])
    have HS := Lib.hid hs
    clear d0 hs
    by_cases hnx : M.nx = M2.nx
    · have HT : Hid (decide (M.nx = M2.nx) = true) := Lib.hid (decide_eq_true hnx)
      have HE : Hid (decide (M = M2) = decide (M.tk = M2.tk)) := Lib.hid (by
        by_cases h : M.tk = M2.tk
        · rw [decide_eq_true h, decide_eq_true (mc_ext HS.out hnx h)]
        · rw [decide_eq_false h, decide_eq_false (fun e => h (by rw [e]))])
      clear hnx
      go_enter Tryd.func10, Tryd.ntmps10
      go_wp2_with fail
      clear hw1 hw2 k0 k1 k2 d0' d1 d2
      refine Calls.mono (smR_any A A' n n' c c' B M.nx M2.nx w2 HM.out.rows HM'.out.rows HN.out HR.out) ?_
      rintro e w7 ⟨rfl, q, rfl⟩
      rw [HT.out]
      have z1 : (w2.drewN q).cell? ⟨w.heap.size, 2, none⟩ = some (.slice A2 m c2) := HST.out.2.1
      have z2 : (w2.drewN q).cell? ⟨w.heap.size + 1, 2, none⟩ = some (.slice A2' m' c2') := HST.out.2.2.2
      go_wp2_with fail
      refine Calls.mono (smB_any A2 A2' m m' c2 c2' B M.tk M2.tk (w2.drewN q) HM.out.tks HM'.out.tks HMM.out) ?_
      rintro e w8 ⟨rfl, q2, rfl⟩
      go_wp2_with fail
      go_ret
      exact ⟨ret_bool HE.out.symm, below_drewN HB2.out (q + q2)⟩
    · have HT : Hid (decide (M.nx = M2.nx) = false) := Lib.hid (decide_eq_false hnx)
      have HE : Hid (decide (M = M2) = false) := Lib.hid (decide_eq_false fun e => hnx (by rw [e]))
      clear hnx
      go_enter Tryd.func10, Tryd.ntmps10
      go_wp2_with fail
      clear hw1 hw2 k0 k1 k2 d0' d1 d2
      refine Calls.mono (smR_any A A' n n' c c' B M.nx M2.nx w2 HM.out.rows HM'.out.rows HN.out HR.out) ?_
      rintro e w7 ⟨rfl, q, rfl⟩
      rw [HT.out]
      go_wp2_with fail
      go_ret
      exact ⟨ret_bool HE.out.symm, below_drewN HB2.out q⟩
  · have hd : (M.sg == M2.sg) = false := by simp [hs]
    have HE : Hid (decide (M = M2) = false) := Lib.hid (decide_eq_false fun e => hs (by rw [e]))
    clear hs
    go_enter Tryd.func10, Tryd.ntmps10
    go_wp2_with fail
    go_ret
    exact ⟨ret_bool HE.out.symm, hw2 ▸ HB2.out⟩

end Go.Proofs.YtfglajddibjnjaaDoor
