/- The document's sameInts, and Same of two machines over one text of signs. No condition. -/
import Derived.Test.YtfglajddibjnjaaDoorLsU
namespace Go.Proofs.YtfglajddibjnjaaDoor
open Go.RowKit IntWalk
set_option linter.unusedSimpArgs false
attribute [local go_sem] byte_at str_app
attribute [local go_sem ↓] Go.wp_at_zero Go.wp_at_succ

set_option maxRecDepth 100000 in
set_option maxHeartbeats 2000000 in
theorem si3_any (A A2 : Option Addr) (n m c c2 B : Nat) (L L2 : List Int) (w : World) (h : Ints w B A n L) (h2 : Ints w B A2 m L2) (hn : n ≤ 100000) :
    Calls Tryd.prog 25 #[.slice A n c, .slice A2 m c2] w fun e w' => e = .returned (.bool (decide (L = L2))) ∧ ∃ q, w' = w.drewN q := by
  have H1 := Lib.hid h; have H2 := Lib.hid h2
  have l1 := h.1; have l2 := h2.1
  clear h h2
  by_cases hnm : n = m
  · subst hnm
    have q1 : ((n : Int) != (n : Int)) = false := by simp
    have HL := Lib.hid l1; have HL2 := Lib.hid l2
    clear l1 l2
    go_enter Tryd.func25, Tryd.ntmps25
    go_wp2_with fail
    go_loopg [5] n (fun f iv wr => ∃ j q : Nat, j + f = n ∧ iv = .int .i64 (j : Int) ∧ wr = w.drewN q ∧ Hid (∀ i, i < j → gi L i = gi L2 i))
    case atStart => exact ⟨0, 0, by omega, rfl, rfl, Lib.hid fun i h => absurd h (by omega)⟩
    case round =>
      obtain ⟨j, q, hjf, rfl, rfl, HP⟩ := hrel
      by_cases hlt : j < n
      · obtain ⟨f, rfl⟩ : ∃ f, gk = f + 1 := ⟨gk - 1, by omega⟩
        obtain ⟨b, o, rfl, _, c0⟩ := H1.out.at_ hlt
        obtain ⟨b2, o2, rfl, _, c1⟩ := H2.out.at_ hlt
        have p1 : (j : Int) < (n : Int) := by omega
        have p2 : IntKind.i64.wrap ((j : Int) + 1) = (j : Int) + 1 := i64_in _ (by omega)
        by_cases he : gi L j = gi L2 j
        · have HP2 : Hid (∀ i, i < j + 1 → gi L i = gi L2 i) := Lib.hid fun i hi => by
            rcases Nat.lt_or_ge i j with hl | hl
            · exact HP.out i hl
            · obtain rfl : i = j := by omega
              exact he
          have q2 : (gi L j != gi L2 j) = false := by rw [he]; simp
          clear he HP
          generalize gi L j = x at *
          generalize gi L2 j = y at *
          go_wp2_with fail
          go_quiet (fail)
          go_wp2_with fail
          go_roundg f
          case measure => omega
          case rel => exact ⟨j + 1, q + nq, by omega, by simp, by simp, HP2⟩
        · have q2 : (gi L j != gi L2 j) = true := by simpa using he
          have HD : Hid (decide (L = L2) = false) := Lib.hid (decide_eq_false fun e => he (by rw [e]))
          clear he HP
          generalize gi L j = x at *
          generalize gi L2 j = y at *
          go_wp2_with fail
          go_quiet (fail)
          go_wp2_with fail
          go_ret
          exact ⟨ret_bool HD.out.symm, q + nq, by simp⟩
      · obtain rfl : j = n := by omega
        have HD : Hid (decide (L = L2) = true) := Lib.hid (decide_eq_true (ints_ext (HL.out.trans HL2.out.symm) fun i hi => HP.out i (by rw [HL.out] at hi; exact hi)))
        have p1 : ¬ (j : Int) < (j : Int) := by omega
        clear HP
        go_wp2_with fail
        go_ret
        exact ⟨ret_bool HD.out.symm, _, rfl⟩
  · have q1 : ((n : Int) != (m : Int)) = true := by simp; omega
    have HD : Hid (decide (L = L2) = false) := Lib.hid (decide_eq_false fun e => hnm (by rw [← l1, ← l2, e]))
    clear l1 l2 hnm
    go_enter Tryd.func25, Tryd.ntmps25
    go_wp2_with fail
    go_ret
    exact ⟨ret_bool HD.out.symm, 0, rfl⟩

set_option maxRecDepth 100000 in
set_option maxHeartbeats 4000000 in
theorem same3_any (M M2 : Mc) (hsg : M.sg = M2.sg) (A A2 A' A2' : Option Addr) (n c c2 n' c' c2' B : Nat) (w : World) (hM : MacW w B A n A2 n M) (hM' : MacW w B A' n' A2' n' M2) (hB : B ≤ w.heap.size) (hn : n ≤ 100000) (hr : ∀ i, i < n → (ro M.nx i).length ≤ 100000) :
    Calls Tryd.prog 12 #[mcv M.sg A n c A2 n c2, mcv M2.sg A' n' c' A2' n' c2'] w fun e w' => e = .returned (.bool (decide (M = M2))) ∧ Below w.heap.size w w' := by
  have h0 := heap_alloc_new w (.cells #[S M.sg, .slice A n c, .slice A2 n c2] 25)
  have hb0 := (Below.refl w.heap.size w).alloc (Nat.le_refl _) (.cells #[S M.sg, .slice A n c, .slice A2 n c2] 25)
  generalize hw1 : w.alloc (.cells #[S M.sg, .slice A n c, .slice A2 n c2] 25) = w1 at *
  have hz1 : w1.heap.size = w.heap.size + 1 := by rw [← hw1]; simp
  have h1 := heap_alloc_new w1 (.cells #[S M2.sg, .slice A' n' c', .slice A2' n' c2'] 25)
  have h0' := ((World.grownBy_alloc w1 (.cells #[S M2.sg, .slice A' n' c', .slice A2' n' c2'] 25) none).block w.heap.size (by omega) (by simp)).trans h0
  rw [hz1] at h1
  have hb1 := hb0.alloc (by omega) (.cells #[S M2.sg, .slice A' n' c', .slice A2' n' c2'] 25)
  generalize hw2 : w1.alloc (.cells #[S M2.sg, .slice A' n' c', .slice A2' n' c2'] 25) = w2 at *
  have HB := Lib.hid hb1
  have HM := Lib.hid (hM.below (hb1.mono hB))
  have HM' := Lib.hid (hM'.below (hb1.mono hB))
  obtain ⟨a0, a1, a2, _⟩ := three_atL h0'
  obtain ⟨b0, b1, b2, _⟩ := three_atL h1
  rw [← hsg] at b0
  have HR := Lib.hid hr
  have HSG := Lib.hid hsg
  have hln := hM.n_eq
  have hln' := hM'.n_eq
  clear h0 h1 h0' hb0 hb1 hM hM' hr hsg
  by_cases hnn : n = n'
  · subst hnn
    have q1 : ((n : Int) != (n : Int)) = false := by simp
    have HLN := Lib.hid (And.intro hln hln')
    clear hln hln'
    go_enter Tryd.func12, Tryd.ntmps12
    go_wp2_with fail
    clear hw1 hw2
    go_loopg [5] n (fun f iv wr => ∃ j q : Nat, j + f = n ∧ iv = .int .i64 (j : Int) ∧ wr = w2.drewN q ∧ Hid (∀ i, i < j → ro M.nx i = ro M2.nx i))
    case atStart => exact ⟨0, 0, by omega, rfl, rfl, Lib.hid fun i h => absurd h (by omega)⟩
    case round =>
      obtain ⟨j, q, hjf, rfl, hwr, HP⟩ := hrel
      have HWR := Lib.hid hwr
      have HMr : Hid (MacW wr B A n A2 n M) := Lib.hid (by rw [hwr]; exact HM.out.below (below_drewN (Below.refl B w2) q))
      have HMr' : Hid (MacW wr B A' n A2' n M2) := Lib.hid (by rw [hwr]; exact HM'.out.below (below_drewN (Below.refl B w2) q))
      have d0 : wr.cell? ⟨w.heap.size, 1, none⟩ = some (.slice A n c) := by rw [hwr]; exact a1
      have d1 : wr.cell? ⟨w.heap.size + 1, 1, none⟩ = some (.slice A' n c') := by rw [hwr]; exact b1
      have d2 : wr.cell? ⟨w.heap.size, 2, none⟩ = some (.slice A2 n c2) := by rw [hwr]; exact a2
      have d3 : wr.cell? ⟨w.heap.size + 1, 2, none⟩ = some (.slice A2' n c2') := by rw [hwr]; exact b2
      have HB4 : Hid (Below w.heap.size w wr) := Lib.hid (by rw [hwr]; exact below_drewN HB.out q)
      clear hwr
      by_cases hlt : j < n
      · obtain ⟨f, rfl⟩ : ∃ f, gk = f + 1 := ⟨gk - 1, by omega⟩
        obtain ⟨b, o, a, na, ca, rfl, _, c0, hI1⟩ := HMr.out.rows.at_ hlt
        obtain ⟨b2', o2, a2', na2, ca2, rfl, _, c1, hI2⟩ := HMr'.out.rows.at_ hlt
        have HI1 := Lib.hid hI1; have HI2 := Lib.hid hI2
        have HN : Hid (na ≤ 100000) := Lib.hid (by have := HR.out j hlt; have := hI1.1; omega)
        have p1 : (j : Int) < (n : Int) := by omega
        have p2 : IntKind.i64.wrap ((j : Int) + 1) = (j : Int) + 1 := i64_in _ (by omega)
        clear hI1 hI2 a0 a1 a2 b0 b1 b2
        by_cases he : ro M.nx j = ro M2.nx j
        · have HP2 : Hid (∀ i, i < j + 1 → ro M.nx i = ro M2.nx i) := Lib.hid fun i hi => by
            rcases Nat.lt_or_ge i j with hl | hl
            · exact HP.out i hl
            · obtain rfl : i = j := by omega
              exact he
          have hd : decide (ro M.nx j = ro M2.nx j) = true := decide_eq_true he
          have HC : ∀ r, Calls Tryd.prog 25 #[.slice a na ca, .slice a2' na2 ca2] (wr.drewN r) fun e w' => e = .returned (.bool true) ∧ ∃ m, w' = (wr.drewN r).drewN m := fun r => by
            have := si3_any a a2' na na2 ca ca2 B (ro M.nx j) (ro M2.nx j) (wr.drewN r) HI1.out HI2.out HN.out
            rwa [hd] at this
          have HCC := Lib.hid HC
          clear he HP hd HC
          go_wp2_with fail
          go_quiet ((go_at_call 25; exact Calls.quiet_of (HCC.out _)))
          go_wp2_with fail
          go_roundg f
          case measure => omega
          case rel => exact ⟨j + 1, q + nq, by omega, by simp, by rw [HWR.out]; simp, HP2⟩
        · have hd : decide (ro M.nx j = ro M2.nx j) = false := decide_eq_false he
          have HD : Hid (decide (M = M2) = false) := Lib.hid (decide_eq_false fun e => he (by rw [e]))
          have HC : ∀ r, Calls Tryd.prog 25 #[.slice a na ca, .slice a2' na2 ca2] (wr.drewN r) fun e w' => e = .returned (.bool false) ∧ ∃ m, w' = (wr.drewN r).drewN m := fun r => by
            have := si3_any a a2' na na2 ca ca2 B (ro M.nx j) (ro M2.nx j) (wr.drewN r) HI1.out HI2.out HN.out
            rwa [hd] at this
          have HCC := Lib.hid HC
          clear he HP hd HC
          go_wp2_with fail
          go_quiet ((go_at_call 25; exact Calls.quiet_of (HCC.out _)))
          go_wp2_with fail
          go_ret
          exact ⟨ret_bool HD.out.symm, below_drewN HB4.out _⟩
      · obtain rfl : n = j := by omega
        have hml : M.nx.length = n := HLN.out.1
        have hml' : M2.nx.length = n := HLN.out.2
        have HNX : Hid (M.nx = M2.nx) := Lib.hid (rws_ext (hml.trans hml'.symm) fun i hi => HP.out i (by omega))
        have p1 : ¬ (n : Int) < (n : Int) := by omega
        have HM2 := Lib.hid HM.out; have HM2' := Lib.hid HM'.out
        clear HP hml hml' a0 b0 a1 b1
        go_wp2_with fail
        clear d0 d1 d2 d3 HB4
        go_loopg [6] n (fun f iv wr => ∃ j q : Nat, j + f = n ∧ iv = .int .i64 (j : Int) ∧ Hid (wr = w2.drewN q) ∧ Hid (∀ i, i < j → bo M.tk i = bo M2.tk i))
        case atStart => exact ⟨0, q, by omega, rfl, HWR, Lib.hid fun i h => absurd h (by omega)⟩
        case round =>
          clear HWR
          obtain ⟨j, q, hjf, rfl, HWR, HP⟩ := hrel
          have HMr : Hid (MacW wr B A n A2 n M) := Lib.hid (by rw [HWR.out]; exact HM.out.below (below_drewN (Below.refl B w2) q))
          have HMr' : Hid (MacW wr B A' n A2' n M2) := Lib.hid (by rw [HWR.out]; exact HM'.out.below (below_drewN (Below.refl B w2) q))
          have d2 : wr.cell? ⟨w.heap.size, 2, none⟩ = some (.slice A2 n c2) := by rw [HWR.out]; exact a2
          have d3 : wr.cell? ⟨w.heap.size + 1, 2, none⟩ = some (.slice A2' n c2') := by rw [HWR.out]; exact b2
          have HB4 : Hid (Below w.heap.size w wr) := Lib.hid (by rw [HWR.out]; exact below_drewN HB.out q)
          by_cases hlt : j < n
          · obtain ⟨f, rfl⟩ : ∃ f, gk = f + 1 := ⟨gk - 1, by omega⟩
            obtain ⟨b, o, rfl, _, c0⟩ := HMr.out.tks.at_ hlt
            obtain ⟨b2', o2, rfl, _, c1⟩ := HMr'.out.tks.at_ hlt
            have p1 : (j : Int) < (n : Int) := by omega
            have p2 : IntKind.i64.wrap ((j : Int) + 1) = (j : Int) + 1 := i64_in _ (by omega)
            clear a2 b2
            by_cases he : bo M.tk j = bo M2.tk j
            · have HP2 : Hid (∀ i, i < j + 1 → bo M.tk i = bo M2.tk i) := Lib.hid fun i hi => by
                rcases Nat.lt_or_ge i j with hl | hl
                · exact HP.out i hl
                · obtain rfl : i = j := by omega
                  exact he
              rw [← he] at c1
              generalize bo M.tk j = x at *
              clear he HP
              go_wp2_with fail
              go_quiet (fail)
              go_wp2_with fail
              go_roundg f
              case measure => omega
              case rel => exact ⟨j + 1, q + nq, by omega, by simp, Lib.hid (by rw [HWR.out]; simp), HP2⟩
            · have HD : Hid (decide (M = M2) = false) := Lib.hid (decide_eq_false fun e => he (by rw [e]))
              have hx : bo M2.tk j = !bo M.tk j := by
                cases h1 : bo M.tk j <;> cases h2 : bo M2.tk j <;> simp_all
              rw [hx] at c1
              generalize bo M.tk j = x at *
              clear he HP hx
              go_wp2_with fail
              go_quiet (fail)
              go_wp2_with fail
              go_ret
              exact ⟨ret_bool HD.out.symm, below_drewN HB4.out _⟩
          · obtain rfl : n = j := by omega
            have HD : Hid (decide (M = M2) = true) := Lib.hid (decide_eq_true (mc_ext HSG.out HNX.out (bls_ext (HM.out.m_eq.trans HM'.out.m_eq.symm) fun i hi => HP.out i (by have := HM.out.m_eq; omega))))
            have p1 : ¬ (n : Int) < (n : Int) := by omega
            clear HP
            go_wp2_with fail
            go_ret
            exact ⟨ret_bool HD.out.symm, HB4.out⟩
  · have q1 : ((n : Int) != (n' : Int)) = true := by simp; omega
    have HD : Hid (decide (M = M2) = false) := Lib.hid (decide_eq_false fun e => hnn (by rw [← hln, ← hln', e]))
    clear hln hln' hnn
    go_enter Tryd.func12, Tryd.ntmps12
    go_wp2_with fail
    go_ret
    exact ⟨ret_bool HD.out.symm, HB.out⟩
end Go.Proofs.YtfglajddibjnjaaDoor
