/- Texts joined, each with its own conditions. (1) The document's Wrong, and in. No condition. (2) letterbecksame's Ints, Bools, Rows, Machines. No condition. -/
import Derived.Test.YtchhbnnpannnhaaGreatDoorMg7
namespace Go.Proofs.YtchhbnnpannnhaaGreatDoor
open Go.RowKit IntWalk
set_option linter.unusedSimpArgs false
attribute [local go_sem] byte_at str_app
attribute [local go_sem ↓] Go.wp_at_zero Go.wp_at_succ

theorem in3_any (n lo hi : Int) (w : World) :
    Calls Tryz.prog 13 #[.int .i64 n, .int .i64 lo, .int .i64 hi] w fun e w' => e = .returned (.bool (decide (lo ≤ n ∧ n ≤ hi))) ∧ w' = w := by
  by_cases h1 : lo ≤ n
  · by_cases h2 : n ≤ hi
    all_goals
      go_enter Tryz.func13, Tryz.ntmps13
      go_wp2
      go_ret
      exact ⟨by simp [h1, h2], rfl⟩
  · go_enter Tryz.func13, Tryz.ntmps13
    go_wp2
    go_ret
    exact ⟨ret_bool (by simp [show ¬ lo ≤ n from by omega]), rfl⟩

set_option maxRecDepth 100000 in
set_option maxHeartbeats 4000000 in
theorem wrong_any (M : Mc) (A A2 : Option Addr) (n c m c2 B : Nat) (w : World) (hM : MacW w B A n A2 m M) (hB : B ≤ w.heap.size) :
    Calls Tryz.prog 4 #[mcv M.sg A n c A2 m c2] w fun e w' => e = .returned (.int .i64 M.wrong) ∧ Below w.heap.size w w' := by
  have hn := hM.n_eq
  have hm := hM.m_eq
  obtain ⟨c0, c1, c2'⟩ := mac_cells w M.sg A n c A2 m c2 25
  have HB := Lib.hid ((Below.refl w.heap.size w).alloc (Nat.le_refl _) (.cells #[S M.sg, .slice A n c, .slice A2 m c2] 25))
  have HR := Lib.hid (hM.rows.alloc hB (.cells #[S M.sg, .slice A n c, .slice A2 m c2] 25))
  clear hM hB
  by_cases h0 : M.n = 0
  · have HE := Lib.hid (wrong_5 h0)
    obtain rfl : n = 0 := by omega
    clear h0 HR hn hm
    go_enter Tryz.func4, Tryz.ntmps4
    go_wp2_with fail
    go_ret
    exact ⟨by rw [HE.out]; rfl, HB.out⟩
  by_cases h1 : 1000 < M.n ∨ 12 < M.s
  · have HE := Lib.hid (wrong_4 h0 h1)
    have e0 : (n : Int) ≠ 0 := by omega
    have e0' : n ≠ 0 := by omega
    by_cases h2 : 1000 < n
    · have e1 : (1000 : Int) < (n : Int) := by omega
      clear h0 h1 hn hm HR
      go_enter Tryz.func4, Tryz.ntmps4
      go_wp2_with fail
      go_ret
      exact ⟨by rw [HE.out]; rfl, HB.out⟩
    · have e1 : ¬ (1000 : Int) < (n : Int) := by omega
      have e2 : (12 : Int) < (M.sg.length : Int) := by have : M.s = M.sg.length := rfl; omega
      clear h0 h1 hn hm HR
      go_enter Tryz.func4, Tryz.ntmps4
      go_wp2_with fail
      go_ret
      exact ⟨by rw [HE.out]; rfl, HB.out⟩
  by_cases h3 : M.tk.length ≠ M.n
  · have HE := Lib.hid (wrong_3 h0 h1 h3)
    have q0 : (n : Int) ≠ 0 := by omega
    have q0' : n ≠ 0 := by omega
    have q1 : ¬ (1000 : Int) < (n : Int) := by omega
    have q2 : ¬ (12 : Int) < (M.sg.length : Int) := by have : M.s = M.sg.length := rfl; omega
    have q3 : ((m : Int) != (n : Int)) = true := by simp; omega
    clear h0 h1 h3 hn hm HR
    go_enter Tryz.func4, Tryz.ntmps4
    go_wp2_with fail
    go_ret
    exact ⟨by rw [HE.out]; rfl, HB.out⟩
  have hmn : m = n := by omega
  subst hmn
  have q0 : (m : Int) ≠ 0 := by omega
  have q0' : m ≠ 0 := by omega
  have q1 : ¬ (1000 : Int) < (m : Int) := by omega
  have q2 : ¬ (12 : Int) < (M.sg.length : Int) := by have : M.s = M.sg.length := rfl; omega
  have q3 : ((m : Int) != (m : Int)) = false := by simp
  have hs12 : M.sg.length ≤ 12 := by have : M.s = M.sg.length := rfl; omega
  have hm1000 : m ≤ 1000 := by omega
  have H6 := Lib.hid (fun h4 => wrong_6 (M := M) h0 h1 h3 h4)
  have HRS := Lib.hid (fun h4 => wrong_r (M := M) h0 h1 h3 h4)
  have HN := Lib.hid hn
  clear h0 h1 h3 hn hm
  generalize hw1 : w.alloc (.cells #[S M.sg, .slice A m c, .slice A2 m c2] 25) = w1 at *
  go_enter Tryz.func4, Tryz.ntmps4
  go_wp2_with fail
  clear hw1
  go_loopg [3] M.sg.length (fun f iv wr => ∃ k q : Nat, k + f = M.sg.length ∧ iv = .int .i64 ((k : Int) + 1) ∧ wr = w1.drewN q ∧ Hid (∀ i, i < k → bu M.sg i < bu M.sg (i + 1)))
  case atStart => exact ⟨0, 0, by omega, rfl, rfl, Lib.hid fun i h => absurd h (by omega)⟩
  case round =>
    obtain ⟨k, q, hkf, rfl, rfl, HP⟩ := hrel
    by_cases hlt : k + 1 < M.sg.length
    · obtain ⟨f, rfl⟩ : ∃ f, gk = f + 1 := ⟨gk - 1, by omega⟩
      have p1 : (k : Int) + 1 < (M.sg.length : Int) := by omega
      have p2 : IntKind.i64.wrap ((k : Int) + 1 - 1) = (k : Int) := by rw [i64_in _ (by omega)]; omega
      have p3 : IntKind.i64.wrap ((k : Int) + 1 + 1) = (k : Int) + 1 + 1 := i64_in _ (by omega)
      have p4 : (0 : Int) ≤ (k : Int) + 1 := by omega
      have p5 : ((k : Int) + 1).toNat = k + 1 := by omega
      have p6 : (k : Int) < (M.sg.length : Int) := by omega
      have p7 : k < M.sg.length := by omega
      by_cases hb : bu M.sg k < bu M.sg (k + 1)
      · have q4 : ¬ ((bu M.sg (k + 1)).toNat : Int) ≤ ((bu M.sg k).toNat : Int) := by rw [UInt8.lt_iff_toNat_lt] at hb; omega
        have HP2 : Hid (∀ i, i < k + 1 → bu M.sg i < bu M.sg (i + 1)) := Lib.hid fun i hi => by
          rcases Nat.lt_or_ge i k with hl | hl
          · exact HP.out i hl
          · obtain rfl : i = k := by omega
            exact hb
        have q5 : ¬ (bu M.sg (k + 1)).toNat ≤ (bu M.sg k).toNat := by omega
        clear hb HP
        go_wp2_with fail
        go_quiet (fail)
        go_wp2_with fail
        go_roundg f
        case measure => omega
        case rel => exact ⟨k + 1, q + nq, by omega, by simp, by simp, HP2⟩
      · have q4 : ((bu M.sg (k + 1)).toNat : Int) ≤ ((bu M.sg k).toNat : Int) := by rw [UInt8.lt_iff_toNat_lt] at hb; omega
        have q5 : (bu M.sg (k + 1)).toNat ≤ (bu M.sg k).toNat := by omega
        have HE := Lib.hid (H6.out (fun h => hb ((riseB_iff _).1 h k hlt)))
        clear hb HP H6 HRS
        go_wp2_with fail
        go_quiet (fail)
        go_wp2_with fail
        go_ret
        exact ⟨by rw [HE.out]; rfl, by first | exact below_drewN HB4.out _ | exact below_drewN HB.out _ | exact below_drewN (below_drewN HB.out _) _⟩
    · have HE := Lib.hid (HRS.out ((riseB_iff _).2 fun i hi => HP.out i (by have : M.s = M.sg.length := rfl; omega)))
      have p1 : ¬ (k : Int) + 1 < (M.sg.length : Int) := by omega
      clear HP H6 HRS hkf
      go_wp2_with fail
      go_loopg [4] m (fun f iv wr => ∃ j q' : Nat, j + f = m ∧ iv = .int .i64 (j : Int) ∧ wr = w1.drewN q' ∧ Hid (rowsEM M.n M.s (M.nx.drop j) = M.wrong))
      case atStart => exact ⟨0, q, by omega, rfl, rfl, Lib.hid HE.out.symm⟩
      case round =>
        clear HE
        obtain ⟨j, q', hjf, rfl, rfl, HE⟩ := hrel
        by_cases hltj : j < m
        · obtain ⟨f, rfl⟩ : ∃ f, gk = f + 1 := ⟨gk - 1, by omega⟩
          obtain ⟨b, off, a, mm, cc, rfl, _, cr, hI⟩ := HR.out.at_ hltj
          have HI := Lib.hid hI
          have HD := Lib.hid (drop_ro (l := M.nx) (k := j) (by have := HR.out.1; omega))
          have p2 : (j : Int) < (m : Int) := by omega
          have hmm := hI.1
          have HLN := Lib.hid hmm
          generalize ro M.nx j = row at *
          clear hI
          by_cases hs : mm = M.sg.length
          · subst hs
            have q4 : ((M.sg.length : Int) != (M.sg.length : Int)) = false := by simp
            have p8 : IntKind.i64.wrap ((m : Int) - 1) = (m : Int) - 1 := i64_in _ (by omega)
            have p9 : IntKind.i64.wrap ((j : Int) + 1) = (j : Int) + 1 := i64_in _ (by omega)
            clear hmm
            go_wp2_with fail
            go_quiet (fail)
            go_wp2_with fail
            go_loopg [5] M.sg.length (fun f2 iv wr => ∃ d q2 : Nat, d + f2 = M.sg.length ∧ iv = .int .i64 (d : Int) ∧ wr = w1.drewN q2 ∧ Hid (∀ i, i < d → 0 ≤ gi row i ∧ gi row i < m))
            case atStart => exact ⟨0, _, by omega, rfl, by simp; rfl, Lib.hid fun i h => absurd h (by omega)⟩
            case round =>
              obtain ⟨d, q2, hdf, rfl, rfl, HP⟩ := hrel
              by_cases hltd : d < M.sg.length
              · obtain ⟨f2, rfl⟩ : ∃ f, gk = f + 1 := ⟨gk - 1, by omega⟩
                obtain ⟨b2, off2, rfl, _, ce⟩ := HI.out.at_ hltd
                have p10 : (d : Int) < (M.sg.length : Int) := by omega
                have p11 : IntKind.i64.wrap ((d : Int) + 1) = (d : Int) + 1 := i64_in _ (by omega)
                by_cases hv : 0 ≤ gi row d ∧ gi row d ≤ (m : Int) - 1
                · have HP2 : Hid (∀ i, i < d + 1 → 0 ≤ gi row i ∧ gi row i < m) := Lib.hid fun i hi => by
                    rcases Nat.lt_or_ge i d with hl | hl
                    · exact HP.out i hl
                    · obtain rfl : i = d := by omega
                      omega
                  have HW := Lib.hid (decide_eq_true hv)
                  generalize gi row d = v at ce HW
                  have HIN : Hid (∀ W, Calls Tryz.prog 13 #[.int .i64 v, .int .i64 0, .int .i64 ((m : Int) - 1)] W fun e w' => e = .returned (.bool true) ∧ w' = W) := Lib.hid fun W => by rw [← HW.out]; exact in3_any _ _ _ _
                  have d1 : (w1.drewN q2).cell? ⟨w.heap.size, 1, none⟩ = some (.slice (some ⟨b, off, none⟩) m c) := c1
                  have d3 : (w1.drewN q2).cell? ⟨b, off + j, none⟩ = some (.slice (some ⟨b2, off2, none⟩) M.sg.length cc) := cr
                  have d4 : (w1.drewN q2).cell? ⟨b2, off2 + d, none⟩ = some (.int .i64 v) := ce
                  have d0 : (w1.drewN q2).cell? ⟨w.heap.size, 0, none⟩ = some (S M.sg) := c0
                  clear hv HP HW c0 c1 cr ce
                  generalize hwr : w1.drewN q2 = wr at *
                  have HWR := Lib.hid hwr
                  clear hwr
                  go_wp2_with fail
                  go_quiet ((go_at_call 13; exact Calls.quiet_of_same (HIN.out _)))
                  go_wp2_with fail
                  go_roundg f2
                  case measure => omega
                  case rel => exact ⟨d + 1, q2 + nq, by omega, by simp, by rw [← HWR.out]; simp, HP2⟩
                · have HE2 : Hid (M.wrong = 1) := Lib.hid (by
                    have hE := HE.out
                    rw [HD.out, rowsE_cons] at hE
                    have h1 : rowEM M.n M.s row = 1 := by
                      unfold rowEM
                      rw [if_pos HLN.out, if_neg]
                      intro h
                      have := rangeB_iff.1 h d (by rw [HLN.out]; exact hltd)
                      have := HN.out
                      exact hv (by omega)
                    rw [h1, if_neg (by decide)] at hE
                    exact hE.symm)
                  have HW := Lib.hid (decide_eq_false hv)
                  generalize gi row d = v at ce HW
                  have HIN : Hid (∀ W, Calls Tryz.prog 13 #[.int .i64 v, .int .i64 0, .int .i64 ((m : Int) - 1)] W fun e w' => e = .returned (.bool false) ∧ w' = W) := Lib.hid fun W => by rw [← HW.out]; exact in3_any _ _ _ _
                  have d1 : (w1.drewN q2).cell? ⟨w.heap.size, 1, none⟩ = some (.slice (some ⟨b, off, none⟩) m c) := c1
                  have d3 : (w1.drewN q2).cell? ⟨b, off + j, none⟩ = some (.slice (some ⟨b2, off2, none⟩) M.sg.length cc) := cr
                  have d4 : (w1.drewN q2).cell? ⟨b2, off2 + d, none⟩ = some (.int .i64 v) := ce
                  have d0 : (w1.drewN q2).cell? ⟨w.heap.size, 0, none⟩ = some (S M.sg) := c0
                  have HB4 : Hid (Below w.heap.size w (w1.drewN q2)) := Lib.hid (below_drewN HB.out q2)
                  clear hv HP HE HW c0 c1 cr ce
                  generalize w1.drewN q2 = wr at *
                  go_wp2_with fail
                  go_quiet ((go_at_call 13; exact Calls.quiet_of_same (HIN.out _)))
                  go_wp2_with fail
                  go_ret
                  exact ⟨by rw [HE2.out]; rfl, by first | exact below_drewN HB4.out _ | exact below_drewN HB.out _ | exact below_drewN (below_drewN HB.out _) _⟩
              · have HE2 : Hid (rowsEM M.n M.s (M.nx.drop (j + 1)) = M.wrong) := Lib.hid (by
                  have hE := HE.out
                  rw [HD.out, rowsE_cons] at hE
                  have h1 : rowEM M.n M.s row = 0 := rowEM_zero.2 ⟨HLN.out, rangeB_iff.2 fun i hi => by have := HP.out i (by have := HLN.out; omega); have := HN.out; omega⟩
                  rw [if_pos h1] at hE
                  exact hE)
                have p10 : ¬ (d : Int) < (M.sg.length : Int) := by omega
                clear HP HE
                go_wp2_with fail
                go_roundg f
                case measure => omega
                case rel => exact ⟨j + 1, _, by omega, by simp, rfl, HE2⟩
          · have HE2 : Hid (M.wrong = 3) := Lib.hid (by
              have hE := HE.out
              rw [HD.out, rowsE_cons] at hE
              have h1 : rowEM M.n M.s row = 3 := by
                unfold rowEM
                rw [if_neg (by rw [HLN.out]; exact hs)]
              rw [h1, if_neg (by decide)] at hE
              exact hE.symm)
            have q4 : ((mm : Int) != (M.sg.length : Int)) = true := by simp; omega
            clear HE hs hmm
            go_wp2_with fail
            go_quiet (fail)
            go_wp2_with fail
            go_ret
            exact ⟨by rw [HE2.out]; rfl, by first | exact below_drewN HB4.out _ | exact below_drewN HB.out _ | exact below_drewN (below_drewN HB.out _) _⟩
        · have HE2 : Hid (M.wrong = 0) := Lib.hid (by
            have hE := HE.out
            rw [List.drop_of_length_le (by have := HR.out.1; omega)] at hE
            exact hE.symm)
          have p2 : ¬ (j : Int) < (m : Int) := by omega
          clear HE
          go_wp2_with fail
          go_ret
          exact ⟨by rw [HE2.out]; rfl, by first | exact below_drewN HB4.out _ | exact below_drewN HB.out _ | exact below_drewN (below_drewN HB.out _) _⟩
end Go.Proofs.YtchhbnnpannnhaaGreatDoor

namespace Go.Proofs.YtchhbnnpannnhaaGreatDoor
open Go.RowKit IntWalk
set_option linter.unusedSimpArgs false
attribute [local go_sem] byte_at str_app
attribute [local go_sem ↓] Go.wp_at_zero Go.wp_at_succ

theorem bls_ext {L L2 : List Bool} (h : L.length = L2.length) (hp : ∀ i, i < L.length → bo L i = bo L2 i) : L = L2 :=
  List.ext_getElem h fun i h1 h2 => by have := hp i h1; rw [bo_eq h1, bo_eq h2] at this; exact this
set_option maxRecDepth 100000 in
set_option maxHeartbeats 2000000 in
theorem smB_any (A A2 : Option Addr) (n m c c2 B : Nat) (L L2 : List Bool) (w : World) (h : Bls w B A n L) (h2 : Bls w B A2 m L2) (hn : n ≤ 100000) :
    Calls Tryz.prog 33 #[.slice A n c, .slice A2 m c2] w fun e w' => e = .returned (.bool (decide (L = L2))) ∧ ∃ q, w' = w.drewN q := by
  have H1 := Lib.hid h; have H2 := Lib.hid h2
  have l1 := h.1; have l2 := h2.1
  clear h h2
  by_cases hnm : n = m
  · subst hnm
    have q1 : ((n : Int) != (n : Int)) = false := by simp
    have HL := Lib.hid l1; have HL2 := Lib.hid l2
    clear l1 l2
    go_enter Tryz.func33, Tryz.ntmps33
    go_wp2_with fail
    go_loopg [5] n (fun f iv wr => ∃ j q : Nat, j + f = n ∧ iv = .int .i64 (j : Int) ∧ wr = w.drewN q ∧ Hid (∀ i, i < j → bo L i = bo L2 i))
    case atStart => exact ⟨0, 0, by omega, rfl, rfl, Lib.hid fun i h => absurd h (by omega)⟩
    case round =>
      obtain ⟨j, q, hjf, rfl, rfl, HP⟩ := hrel
      by_cases hlt : j < n
      · obtain ⟨f, rfl⟩ : ∃ f, gk = f + 1 := ⟨gk - 1, by omega⟩
        obtain ⟨b, o, rfl, _, c0⟩ := H1.out.at_ hlt
        obtain ⟨b2, o2, rfl, _, c1⟩ := H2.out.at_ hlt
        have p1 : (j : Int) < (n : Int) := by omega
        have p2 : IntKind.i64.wrap ((j : Int) + 1) = (j : Int) + 1 := i64_in _ (by omega)
        by_cases he : bo L j = bo L2 j
        · have HP2 : Hid (∀ i, i < j + 1 → bo L i = bo L2 i) := Lib.hid fun i hi => by
            rcases Nat.lt_or_ge i j with hl | hl
            · exact HP.out i hl
            · obtain rfl : i = j := by omega
              exact he
          rw [he] at c0
          clear he HP
          generalize bo L2 j = y at *
          cases y
          all_goals
            go_wp2_with fail
            go_quiet (fail)
            go_wp2_with fail
            go_roundg f
            case measure => omega
            case rel => exact ⟨j + 1, q + nq, by omega, by simp, by simp, HP2⟩
        · have q2 : (bo L j != bo L2 j) = true := by simpa using he
          have HD : Hid (decide (L = L2) = false) := Lib.hid (decide_eq_false fun e => he (by rw [e]))
          have hy : bo L2 j = !bo L j := by cases h1 : bo L j <;> cases h2 : bo L2 j <;> simp_all
          rw [hy] at c1
          clear he HP hy q2
          generalize bo L j = x at *
          cases x
          all_goals
            go_wp2_with fail
            go_quiet (fail)
            go_wp2_with fail
            go_ret
            exact ⟨ret_bool HD.out.symm, q + nq, by simp⟩
      · obtain rfl : j = n := by omega
        have HD : Hid (decide (L = L2) = true) := Lib.hid (decide_eq_true (bls_ext (HL.out.trans HL2.out.symm) fun i hi => HP.out i (by rw [HL.out] at hi; exact hi)))
        have p1 : ¬ (j : Int) < (j : Int) := by omega
        clear HP
        go_wp2_with fail
        go_ret
        exact ⟨ret_bool HD.out.symm, _, rfl⟩
  · have q1 : ((n : Int) != (m : Int)) = true := by simp; omega
    have HD : Hid (decide (L = L2) = false) := Lib.hid (decide_eq_false fun e => hnm (by rw [← l1, ← l2, e]))
    clear l1 l2 hnm
    go_enter Tryz.func33, Tryz.ntmps33
    go_wp2_with fail
    go_ret
    exact ⟨ret_bool HD.out.symm, 0, rfl⟩
theorem mc_ext {M M2 : Mc} (h1 : M.sg = M2.sg) (h2 : M.nx = M2.nx) (h3 : M.tk = M2.tk) : M = M2 := by
  obtain ⟨a, b, c⟩ := M; obtain ⟨a2, b2, c2⟩ := M2
  simp only [] at *
  rw [h1, h2, h3]
set_option maxRecDepth 100000 in
set_option maxHeartbeats 2000000 in
theorem smM_any (M M2 : Mc) (A A2 A' A2' : Option Addr) (n c m c2 n' c' m' c2' B : Nat) (w : World) (hM : MacW w B A n A2 m M) (hM' : MacW w B A' n' A2' m' M2) (hB : B ≤ w.heap.size) (hn : n ≤ 100000) (hm : m ≤ 100000) (hr : ∀ i, i < n → (ro M.nx i).length ≤ 100000) :
    Calls Tryz.prog 12 #[mcv M.sg A n c A2 m c2, mcv M2.sg A' n' c' A2' m' c2'] w fun e w' => e = .returned (.bool (decide (M = M2))) ∧ Below w.heap.size w w' := by
  obtain ⟨c0, c1, c2x⟩ := mac_cells w M.sg A n c A2 m c2 25
  generalize hw1 : w.alloc (.cells #[S M.sg, .slice A n c, .slice A2 m c2] 25) = w1 at *
  have HZ1 : w1.heap.size = w.heap.size + 1 := by rw [← hw1]; simp
  have HB1 : Below w.heap.size w w1 := by rw [← hw1]; exact (Below.refl _ w).alloc (Nat.le_refl _) _
  obtain ⟨d0, d1, d2⟩ := mac_cells w1 M2.sg A' n' c' A2' m' c2' 25
  have HB2 := Lib.hid (HB1.alloc (by omega) (.cells #[S M2.sg, .slice A' n' c', .slice A2' m' c2'] 25))
  have k0 : (w1.alloc (.cells #[S M2.sg, .slice A' n' c', .slice A2' m' c2'] 25)).cell? ⟨w.heap.size, 0, none⟩ = some (S M.sg) := (World.cell?_alloc_lt w1 _ ⟨w.heap.size, 0, none⟩ (show w.heap.size < w1.heap.size by omega)).trans c0
  have k1 : (w1.alloc (.cells #[S M2.sg, .slice A' n' c', .slice A2' m' c2'] 25)).cell? ⟨w.heap.size, 1, none⟩ = some (.slice A n c) := (World.cell?_alloc_lt w1 _ ⟨w.heap.size, 1, none⟩ (show w.heap.size < w1.heap.size by omega)).trans c1
  have k2 : (w1.alloc (.cells #[S M2.sg, .slice A' n' c', .slice A2' m' c2'] 25)).cell? ⟨w.heap.size, 2, none⟩ = some (.slice A2 m c2) := (World.cell?_alloc_lt w1 _ ⟨w.heap.size, 2, none⟩ (show w.heap.size < w1.heap.size by omega)).trans c2x
  have HM := Lib.hid (hM.below (HB2.out.mono hB))
  have HM' := Lib.hid (hM'.below (HB2.out.mono hB))
  clear hM hM' hB c0 c1 c2x HB1
  generalize hw2 : w1.alloc (.cells #[S M2.sg, .slice A' n' c', .slice A2' m' c2'] 25) = w2 at *
  rw [HZ1] at d0 d1 d2
  have HST := Lib.hid (And.intro k1 (And.intro k2 (And.intro d1 d2)))
  have HN := Lib.hid hn; have HMM := Lib.hid hm; have HR := Lib.hid hr
  clear hn hm hr
  by_cases hs : M.sg = M2.sg
  · have d0' := d0.trans (show some (S M2.sg) = some (S M.sg) by rw [hs])
    have HS := Lib.hid hs
    clear d0 hs
    by_cases hnx : M.nx = M2.nx
    · have HT : Hid (decide (M.nx = M2.nx) = true) := Lib.hid (decide_eq_true hnx)
      have HE : Hid (decide (M = M2) = decide (M.tk = M2.tk)) := Lib.hid (by
        by_cases h : M.tk = M2.tk
        · rw [decide_eq_true h, decide_eq_true (mc_ext HS.out hnx h)]
        · rw [decide_eq_false h, decide_eq_false (fun e => h (by rw [e]))])
      clear hnx
      go_enter Tryz.func12, Tryz.ntmps12
      go_wp2_with fail
      clear hw1 hw2 k0 k1 k2 d0' d1 d2
      refine Calls.mono (smR_any A A' n n' c c' B M.nx M2.nx w2 HM.out.rows HM'.out.rows HN.out HR.out) ?_
      rintro e w7 ⟨rfl, q, rfl⟩
      rw [HT.out]
      have z1 : (w2.drewN q).cell? ⟨w.heap.size, 2, none⟩ = some (.slice A2 m c2) := HST.out.2.1
      have z2 : (w2.drewN q).cell? ⟨w.heap.size + 1, 2, none⟩ = some (.slice A2' m' c2') := HST.out.2.2.2
      go_wp2_with fail
      refine Calls.mono (smB_any A2 A2' m m' c2 c2' B M.tk M2.tk (w2.drewN q) HM.out.tks HM'.out.tks HMM.out) ?_
      rintro e w8 ⟨rfl, q2, rfl⟩
      go_wp2_with fail
      go_ret
      exact ⟨ret_bool HE.out.symm, below_drewN HB2.out (q + q2)⟩
    · have HT : Hid (decide (M.nx = M2.nx) = false) := Lib.hid (decide_eq_false hnx)
      have HE : Hid (decide (M = M2) = false) := Lib.hid (decide_eq_false fun e => hnx (by rw [e]))
      clear hnx
      go_enter Tryz.func12, Tryz.ntmps12
      go_wp2_with fail
      clear hw1 hw2 k0 k1 k2 d0' d1 d2
      refine Calls.mono (smR_any A A' n n' c c' B M.nx M2.nx w2 HM.out.rows HM'.out.rows HN.out HR.out) ?_
      rintro e w7 ⟨rfl, q, rfl⟩
      rw [HT.out]
      go_wp2_with fail
      go_ret
      exact ⟨ret_bool HE.out.symm, below_drewN HB2.out q⟩
  · have hd : (M.sg == M2.sg) = false := by simp [hs]
    have HE : Hid (decide (M = M2) = false) := Lib.hid (decide_eq_false fun e => hs (by rw [e]))
    clear hs
    go_enter Tryz.func12, Tryz.ntmps12
    go_wp2_with fail
    go_ret
    exact ⟨ret_bool HE.out.symm, hw2 ▸ HB2.out⟩
end Go.Proofs.YtchhbnnpannnhaaGreatDoor
