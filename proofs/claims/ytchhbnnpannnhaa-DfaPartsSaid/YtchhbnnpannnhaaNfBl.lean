/- letterbecksame's Ints, Bools, Rows, Machines. No condition. -/
import Derived.Test.YtchhbnnpannnhaaNfS
namespace Go.Proofs.Ytchhbnnpannnhaa
open Go.RowKit IntWalk
set_option linter.unusedSimpArgs false
attribute [local go_sem] byte_at str_app
attribute [local go_sem ↓] Go.wp_at_zero Go.wp_at_succ

theorem bls_ext {L L2 : List Bool} (h : L.length = L2.length) (hp : ∀ i, i < L.length → bo L i = bo L2 i) : L = L2 :=
  List.ext_getElem h fun i h1 h2 => by have := hp i h1; rw [bo_eq h1, bo_eq h2] at this; exact this
set_option maxRecDepth 100000 in
set_option maxHeartbeats 2000000 in
theorem smB_any (A A2 : Option Addr) (n m c c2 B : Nat) (L L2 : List Bool) (w : World) (h : Bls w B A n L) (h2 : Bls w B A2 m L2) (hn : n ≤ 100000) :
    Calls Try.prog 27 #[.slice A n c, .slice A2 m c2] w fun e w' => e = .returned (.bool (decide (L = L2))) ∧ ∃ q, w' = w.drewN q := by
  have H1 := Lib.hid h; have H2 := Lib.hid h2
  have l1 := h.1; have l2 := h2.1
  clear h h2
  by_cases hnm : n = m
  · subst hnm
    have q1 : ((n : Int) != (n : Int)) = false := by simp
    have HL := Lib.hid l1; have HL2 := Lib.hid l2
    clear l1 l2
    go_enter Try.func27, Try.ntmps27
    go_wp2_with fail
    go_loopg [5] n (fun f iv wr => ∃ j q : Nat, j + f = n ∧ iv = .int .i64 (j : Int) ∧ wr = w.drewN q ∧ Hid (∀ i, i < j → bo L i = bo L2 i))
    case atStart => exact ⟨0, 0, by omega, rfl, rfl, Lib.hid fun i h => absurd h (by omega)⟩
    case round =>
      obtain ⟨j, q, hjf, rfl, rfl, HP⟩ := hrel
      by_cases hlt : j < n
      · obtain ⟨f, rfl⟩ : ∃ f, gk = f + 1 := ⟨gk - 1, by omega⟩
        obtain ⟨b, o, rfl, _, c0⟩ := H1.out.at_ hlt
        obtain ⟨b2, o2, rfl, _, c1⟩ := H2.out.at_ hlt
        have p1 : (j : Int) < (n : Int) := by omega
        have p2 : IntKind.i64.wrap ((j : Int) + 1) = (j : Int) + 1 := i64_in _ (by omega)
        by_cases he : bo L j = bo L2 j
        · have HP2 : Hid (∀ i, i < j + 1 → bo L i = bo L2 i) := Lib.hid fun i hi => by
            rcases Nat.lt_or_ge i j with hl | hl
            · exact HP.out i hl
            · obtain rfl : i = j := by omega
              exact he
          rw [he] at c0
          clear he HP
          generalize bo L2 j = y at *
          cases y
          all_goals
            go_wp2_with fail
            go_quiet (fail)
            go_wp2_with fail
            go_roundg f
            case measure => omega
            case rel => exact ⟨j + 1, q + nq, by omega, by simp, by simp, HP2⟩
        · have q2 : (bo L j != bo L2 j) = true := by simpa using he
          have HD : Hid (decide (L = L2) = false) := Lib.hid (decide_eq_false fun e => he (by rw [e]))
          have hy : bo L2 j = !bo L j := by cases h1 : bo L j <;> cases h2 : bo L2 j <;> simp_all
          rw [hy] at c1
          clear he HP hy q2
          generalize bo L j = x at *
          cases x
          all_goals
            go_wp2_with fail
            go_quiet (fail)
            go_wp2_with fail
            go_ret
            exact ⟨ret_bool HD.out.symm, q + nq, by simp⟩
      · obtain rfl : j = n := by omega
        have HD : Hid (decide (L = L2) = true) := Lib.hid (decide_eq_true (bls_ext (HL.out.trans HL2.out.symm) fun i hi => HP.out i (by rw [HL.out] at hi; exact hi)))
        have p1 : ¬ (j : Int) < (j : Int) := by omega
        clear HP
        go_wp2_with fail
        go_ret
        exact ⟨ret_bool HD.out.symm, _, rfl⟩
  · have q1 : ((n : Int) != (m : Int)) = true := by simp; omega
    have HD : Hid (decide (L = L2) = false) := Lib.hid (decide_eq_false fun e => hnm (by rw [← l1, ← l2, e]))
    clear l1 l2 hnm
    go_enter Try.func27, Try.ntmps27
    go_wp2_with fail
    go_ret
    exact ⟨ret_bool HD.out.symm, 0, rfl⟩
theorem mc_ext {M M2 : Mc} (h1 : M.sg = M2.sg) (h2 : M.nx = M2.nx) (h3 : M.tk = M2.tk) : M = M2 := by
  obtain ⟨a, b, c⟩ := M; obtain ⟨a2, b2, c2⟩ := M2
  simp only [] at *
  rw [h1, h2, h3]
end Go.Proofs.Ytchhbnnpannnhaa
