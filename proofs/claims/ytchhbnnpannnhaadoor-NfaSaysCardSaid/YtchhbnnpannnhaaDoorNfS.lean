/- letterbecksame's Ints and Rows, the document's Has, the law's in. No condition. -/
import Derived.Test.YtchhbnnpannnhaaDoorLsW
import Derived.Deep.LoopGhost
import Derived.BigQuiet
import Derived.Deep.QuietTactic
namespace Go.Proofs.YtchhbnnpannnhaaDoor
open Go.RowKit IntWalk
set_option linter.unusedSimpArgs false
attribute [local go_sem] byte_at str_app
attribute [local go_sem ↓] Go.wp_at_zero Go.wp_at_succ

theorem ints_ext {L L2 : List Int} (h : L.length = L2.length) (hp : ∀ i, i < L.length → gi L i = gi L2 i) : L = L2 :=
  List.ext_getElem h fun i h1 h2 => by have := hp i h1; rw [gi_eq h1, gi_eq h2] at this; exact this
set_option maxRecDepth 100000 in
set_option maxHeartbeats 2000000 in
theorem smI_any (A A2 : Option Addr) (n m c c2 B : Nat) (L L2 : List Int) (w : World) (h : Ints w B A n L) (h2 : Ints w B A2 m L2) (hn : n ≤ 100000) :
    Calls Tryd.prog 8 #[.slice A n c, .slice A2 m c2] w fun e w' => e = .returned (.bool (decide (L = L2))) ∧ ∃ q, w' = w.drewN q := by
  have H1 := Lib.hid h; have H2 := Lib.hid h2
  have l1 := h.1; have l2 := h2.1
  clear h h2
  by_cases hnm : n = m
  · subst hnm
    have q1 : ((n : Int) != (n : Int)) = false := by simp
    have HL := Lib.hid l1; have HL2 := Lib.hid l2
    clear l1 l2
    go_enter Tryd.func8, Tryd.ntmps8
    go_wp2_with fail
    go_loopg [5] n (fun f iv wr => ∃ j q : Nat, j + f = n ∧ iv = .int .i64 (j : Int) ∧ wr = w.drewN q ∧ Hid (∀ i, i < j → gi L i = gi L2 i))
    case atStart => exact ⟨0, 0, by omega, rfl, rfl, Lib.hid fun i h => absurd h (by omega)⟩
    case round =>
      obtain ⟨j, q, hjf, rfl, rfl, HP⟩ := hrel
      by_cases hlt : j < n
      · obtain ⟨f, rfl⟩ : ∃ f, gk = f + 1 := ⟨gk - 1, by omega⟩
        obtain ⟨b, o, rfl, _, c0⟩ := H1.out.at_ hlt
        obtain ⟨b2, o2, rfl, _, c1⟩ := H2.out.at_ hlt
        have p1 : (j : Int) < (n : Int) := by omega
        have p2 : IntKind.i64.wrap ((j : Int) + 1) = (j : Int) + 1 := i64_in _ (by omega)
        by_cases he : gi L j = gi L2 j
        · have HP2 : Hid (∀ i, i < j + 1 → gi L i = gi L2 i) := Lib.hid fun i hi => by
            rcases Nat.lt_or_ge i j with hl | hl
            · exact HP.out i hl
            · obtain rfl : i = j := by omega
              exact he
          have q2 : (gi L j != gi L2 j) = false := by rw [he]; simp
          clear he HP
          generalize gi L j = x at *
          generalize gi L2 j = y at *
          go_wp2_with fail
          go_quiet (fail)
          go_wp2_with fail
          go_roundg f
          case measure => omega
          case rel => exact ⟨j + 1, q + nq, by omega, by simp, by simp, HP2⟩
        · have q2 : (gi L j != gi L2 j) = true := by simpa using he
          have HD : Hid (decide (L = L2) = false) := Lib.hid (decide_eq_false fun e => he (by rw [e]))
          clear he HP
          generalize gi L j = x at *
          generalize gi L2 j = y at *
          go_wp2_with fail
          go_quiet (fail)
          go_wp2_with fail
          go_ret
          exact ⟨ret_bool HD.out.symm, q + nq, by simp⟩
      · obtain rfl : j = n := by omega
        have HD : Hid (decide (L = L2) = true) := Lib.hid (decide_eq_true (ints_ext (HL.out.trans HL2.out.symm) fun i hi => HP.out i (by rw [HL.out] at hi; exact hi)))
        have p1 : ¬ (j : Int) < (j : Int) := by omega
        clear HP
        go_wp2_with fail
        go_ret
        exact ⟨ret_bool HD.out.symm, _, rfl⟩
  · have q1 : ((n : Int) != (m : Int)) = true := by simp; omega
    have HD : Hid (decide (L = L2) = false) := Lib.hid (decide_eq_false fun e => hnm (by rw [← l1, ← l2, e]))
    clear l1 l2 hnm
    go_enter Tryd.func8, Tryd.ntmps8
    go_wp2_with fail
    go_ret
    exact ⟨ret_bool HD.out.symm, 0, rfl⟩

theorem rws_ext {L L2 : List (List Int)} (h : L.length = L2.length) (hp : ∀ i, i < L.length → ro L i = ro L2 i) : L = L2 := by
  apply List.ext_getElem h
  intro i h1 h2
  have := hp i h1
  rwa [ro_eq h1, ro_eq h2] at this
set_option maxRecDepth 100000 in
set_option maxHeartbeats 2000000 in
theorem smR_any (A A2 : Option Addr) (n m c c2 B : Nat) (L L2 : List (List Int)) (w : World) (h : Rws w B A n L) (h2 : Rws w B A2 m L2) (hn : n ≤ 100000) (hr : ∀ i, i < n → (ro L i).length ≤ 100000) :
    Calls Tryd.prog 9 #[.slice A n c, .slice A2 m c2] w fun e w' => e = .returned (.bool (decide (L = L2))) ∧ ∃ q, w' = w.drewN q := by
  have H1 := Lib.hid h; have H2 := Lib.hid h2; have HR := Lib.hid hr
  have l1 := h.1; have l2 := h2.1
  clear h h2 hr
  by_cases hnm : n = m
  · subst hnm
    have q1 : ((n : Int) != (n : Int)) = false := by simp
    have HL := Lib.hid l1; have HL2 := Lib.hid l2
    clear l1 l2
    go_enter Tryd.func9, Tryd.ntmps9
    go_wp2_with fail
    go_loopg [5] n (fun f iv wr => ∃ j q : Nat, j + f = n ∧ iv = .int .i64 (j : Int) ∧ wr = w.drewN q ∧ Hid (∀ i, i < j → ro L i = ro L2 i))
    case atStart => exact ⟨0, 0, by omega, rfl, rfl, Lib.hid fun i h => absurd h (by omega)⟩
    case round =>
      obtain ⟨j, q, hjf, rfl, hwr, HP⟩ := hrel
      have HWR := Lib.hid hwr
      have H1r : Rws wr B A n L := by rw [hwr]; exact H1.out
      have H2r : Rws wr B A2 n L2 := by rw [hwr]; exact H2.out
      clear hwr
      by_cases hlt : j < n
      · obtain ⟨f, rfl⟩ : ∃ f, gk = f + 1 := ⟨gk - 1, by omega⟩
        obtain ⟨b, o, a, na, ca, rfl, _, c0, hI1⟩ := H1r.at_ hlt
        obtain ⟨b2, o2, a2, na2, ca2, rfl, _, c1, hI2⟩ := H2r.at_ hlt
        have HI1 := Lib.hid hI1; have HI2 := Lib.hid hI2
        have HN : Hid (na ≤ 100000) := Lib.hid (by have := HR.out j hlt; have := hI1.1; omega)
        have p1 : (j : Int) < (n : Int) := by omega
        have p2 : IntKind.i64.wrap ((j : Int) + 1) = (j : Int) + 1 := i64_in _ (by omega)
        clear hI1 hI2 H1r H2r
        by_cases he : ro L j = ro L2 j
        · have HP2 : Hid (∀ i, i < j + 1 → ro L i = ro L2 i) := Lib.hid fun i hi => by
            rcases Nat.lt_or_ge i j with hl | hl
            · exact HP.out i hl
            · obtain rfl : i = j := by omega
              exact he
          have hd : decide (ro L j = ro L2 j) = true := decide_eq_true he
          have HC : ∀ r, Calls Tryd.prog 8 #[.slice a na ca, .slice a2 na2 ca2] (wr.drewN r) fun e w' => e = .returned (.bool true) ∧ ∃ m, w' = (wr.drewN r).drewN m := fun r => by
            have := smI_any a a2 na na2 ca ca2 B (ro L j) (ro L2 j) (wr.drewN r) HI1.out HI2.out HN.out
            rwa [hd] at this
          have HCC := Lib.hid HC
          clear he HP hd HC
          go_wp2_with fail
          go_quiet ((go_at_call 8; exact Calls.quiet_of (HCC.out _)))
          go_wp2_with fail
          go_roundg f
          case measure => omega
          case rel => exact ⟨j + 1, q + nq, by omega, by simp, by rw [HWR.out]; simp, HP2⟩
        · have hd : decide (ro L j = ro L2 j) = false := decide_eq_false he
          have HD : Hid (decide (L = L2) = false) := Lib.hid (decide_eq_false fun e => he (by rw [e]))
          have HC : ∀ r, Calls Tryd.prog 8 #[.slice a na ca, .slice a2 na2 ca2] (wr.drewN r) fun e w' => e = .returned (.bool false) ∧ ∃ m, w' = (wr.drewN r).drewN m := fun r => by
            have := smI_any a a2 na na2 ca ca2 B (ro L j) (ro L2 j) (wr.drewN r) HI1.out HI2.out HN.out
            rwa [hd] at this
          have HCC := Lib.hid HC
          clear he HP hd HC
          go_wp2_with fail
          go_quiet ((go_at_call 8; exact Calls.quiet_of (HCC.out _)))
          go_wp2_with fail
          go_ret
          exact ⟨ret_bool HD.out.symm, q + nq, by rw [HWR.out]; simp⟩
      · obtain rfl : j = n := by omega
        have HD : Hid (decide (L = L2) = true) := Lib.hid (decide_eq_true (rws_ext (HL.out.trans HL2.out.symm) fun i hi => HP.out i (by rw [HL.out] at hi; exact hi)))
        have p1 : ¬ (j : Int) < (j : Int) := by omega
        clear HP
        go_wp2_with fail
        go_ret
        exact ⟨ret_bool HD.out.symm, _, HWR.out⟩
  · have q1 : ((n : Int) != (m : Int)) = true := by simp; omega
    have HD : Hid (decide (L = L2) = false) := Lib.hid (decide_eq_false fun e => hnm (by rw [← l1, ← l2, e]))
    clear l1 l2 hnm
    go_enter Tryd.func9, Tryd.ntmps9
    go_wp2_with fail
    go_ret
    exact ⟨ret_bool HD.out.symm, 0, rfl⟩

noncomputable instance : DecidableEq Mc := fun _ _ => Classical.propDecidable _
set_option maxHeartbeats 1000000 in
theorem has3_any (A : Option Addr) (n c B : Nat) (L : List Int) (x : Int) (w : World) (hL : Ints w B A n L) (hn : n ≤ 100000) :
    Calls Tryd.prog 30 #[.slice A n c, .int .i64 x] w fun e w' => e = .returned (.bool (decide (x ∈ L))) ∧ w = w' := by
  have HL := Lib.hid hL
  have hlen := hL.1
  clear hL
  go_enter Tryd.func30, Tryd.ntmps30
  go_wp2_with fail
  go_loopg [5] n (fun f iv wr => ∃ k : Nat, k + f = n ∧ iv = .int .i64 (k : Int) ∧ w = wr ∧ Hid (∀ j, j < k → gi L j ≠ x))
  case atStart => exact ⟨0, by omega, rfl, rfl, Lib.hid fun j hj => absurd hj (by omega)⟩
  case round =>
    obtain ⟨k, hkf, rfl, rfl, HN⟩ := hrel
    by_cases hlt : k < n
    · obtain ⟨f, rfl⟩ : ∃ f, gk = f + 1 := ⟨gk - 1, by omega⟩
      have HM : Hid (gi L k ∈ L) := Lib.hid (gi_mem (by omega))
      obtain ⟨b, off, rfl, _, hc⟩ := HL.out.at_ hlt
      have p1 : IntKind.i64.wrap ((k : Int) + 1) = (k : Int) + 1 := i64_in _ (by omega)
      have p2 : (k : Int) < (n : Int) := by omega
      by_cases he : gi L k = x
      · rw [he] at HM hc
        have q1 : (x == x) = true := by simp
        clear he
        go_wp2_with fail
        go_ret
        exact ⟨ret_bool (by simp [HM.out]), rfl⟩
      · have q1 : (gi L k == x) = false := by simpa using he
        have HN2 : Hid (∀ j, j < k + 1 → gi L j ≠ x) := Lib.hid fun j hj => by
          rcases Nat.lt_or_ge j k with hl | hl
          · exact HN.out j hl
          · obtain rfl : j = k := by omega
            exact he
        clear he HM
        generalize gi L k = v at hc q1
        go_wp2_with fail
        go_roundg f
        case measure => omega
        case rel => exact ⟨k + 1, by omega, by simp, rfl, HN2⟩
    · have p2 : ¬ (k : Int) < (n : Int) := by omega
      have HX : Hid (x ∉ L) := Lib.hid fun hm => by
        obtain ⟨j, hj, e⟩ := List.getElem_of_mem hm
        exact HN.out j (by omega) (by rw [gi_eq hj]; exact e)
      go_wp2_with fail
      go_ret
      exact ⟨ret_bool (by simp [HX.out]), rfl⟩


end Go.Proofs.YtchhbnnpannnhaaDoor
